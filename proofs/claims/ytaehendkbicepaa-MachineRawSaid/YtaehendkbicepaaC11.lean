/- The law of raw steps. No condition. -/
import Derived.Test.YtaehendkbicepaaC10
set_option linter.unusedVariables false
namespace Go.Lg
open Go

theorem awake_21 : evIs prog prs 30 f_law21_awake [] (.bool true) = true := by kernel_rfl

theorem c_awake {H : LH} : Call prog f_law21_awake [] H (fun v H' => v = .bool true ∧ H' = H) := call_of_evIs mixed awake_21

theorem c_MachineRaw {H : LH} {p : Option Addr} {n c : Nat} {xs : List Int} (hx : Ints H p n c xs) (hlt : ∀ a, p = some a → a.block < H.next)
    {p1 : Option Addr} {n1 c1 : Nat} {p2 : Option Addr} {n2 c2 : Nat} {p3 : Option Addr} {n3 c3 : Nat} {pc : Int} {ended : Bool} {C : CoreD} (hC : CoreAt H p1 n1 c1 p2 n2 c2 p3 n3 c3 pc ended C)
    (l1 : n1 ≤ 140737488355328) (l2 : n2 ≤ 140737488355328) (l3 : n3 ≤ 140737488355328) (spoil : Int) :
    Call prog f_law21_MachineRaw [.slice p n c, .agg #[.slice p1 n1 c1, .slice p2 n2 c2, .slice p3 n3 c3, .int .i64 pc, .bool ended], .int .u8 spoil] H (fun v H' => v = .bool true ∧ Kp [] H H') := by
  refine F_law21_MachineRaw_call _ _ _ _ _ _ _ _ _ _ _ _ _ _ _ ?_
  unfold F_law21_MachineRaw
  have awake : ∀ H1, Kp [] H H1 → XCall prog f_law21_awake [] H1 (fun v H2 => ∃ b, v = .bool b ∧ ((Value.bool b) = .bool true ∧ Kp [] H H2)) := by
    intro H1 k1
    refine XCall.by c_awake ?_
    rintro _ _ ⟨rfl, rfl⟩
    exact ⟨_, rfl, rfl, k1⟩
  refine XCall.by (c_make_Few hx.nil) ?_
  rintro _ H2 ⟨rfl, e2⟩
  obtain rfl := e2.symm
  refine ⟨_, rfl, fun g => awake _ Kp.refl, fun g => ⟨hC.regs.nil, hC.data.nil, hC.held.nil, fun g2 => awake _ Kp.refl, fun g2 => ?_⟩⟩
  rw [wrap_id (x := (n1 : Int) + n2) (by omega), wrap_id (x := (n1 : Int) + n2 + n3) (by omega)] at g2
  have g2 : (n1 : Int) + n2 + n3 ≤ 2000 := by simpa using g2
  refine XCall.by (c_make_New hx hlt) ?_
  rintro _ H11 ⟨rfl, hD, k11⟩
  refine ⟨_, rfl, XCall.by (c_straight hD (by have := hD.is; obtain ⟨_, _, _, _, _, hb, _⟩ := this; exact hb.lt)) ?_⟩
  rintro _ H14 ⟨p15, n16, n17, q, m, d, code, nodes, rfl, str, hcode, hcd, hu, k14, -⟩
  refine ⟨_, _, _, _, _, _, _, _, _, _, rfl, ?_⟩
  have k014 : Kp [] H H14 := k11.drop k14 (fun b hb => by simp at hb; omega)
  intro K25 hK25
  have key : ∀ q m d, (UnitAt H14 q m d nodes ∨ (q = none ∧ m = 0 ∧ d = 0)) → K25 p15 n16 n17 6 none 0 0 q m d H14 := by
    intro q m d hu
    refine hK25 _ _ _ _ _ _ _ _ _ _ _ ?_
    have hC14 := hC.kp0 k014
    refine XCall.by (c_machine_Step str hcode hu hC14 (by omega) (by omega) (by omega) _ _ _) ?_
    rintro _ H38 ⟨⟨p39, n40, n41, p42, n43, n44, p45, n46, n47, rfl, hC38⟩, k38⟩
    refine ⟨_, _, _, _, _, _, _, _, _, _, _, _, _, _, _, rfl, ?_⟩
    have hu38 : UnitAt H38 q m d nodes ∨ (q = none ∧ m = 0 ∧ d = 0) := hu.imp (fun h => h.kp k38) id
    refine XCall.by (c_ref21_Step str (hcode.kp0 k38) hu38 (hC14.kp0 k38) (by omega) (by omega) (by omega) _ _ _) ?_
    rintro _ H55 ⟨⟨p56, n57, n58, p59, n60, n61, p62, n63, n64, rfl, hC55⟩, k55⟩
    refine ⟨_, _, _, _, _, _, _, _, _, _, _, _, _, _, _, rfl, ?_⟩
    rintro _ rfl
    have k71 : Kp [] H55 (H55.keep 26) := Kp.refl.keep _
    refine ⟨fun _ => ⟨fun _ => ?_, fun h => by simp at h⟩, fun h => by simp at h⟩
    refine XCall.by (c_ref21_Same (hC38.kp0 (k55.trans k71)) (hC55.kp0 k71)) ?_
    rintro _ H73 ⟨rfl, k73⟩
    refine ⟨_, rfl, fun _ => ?_, fun h => by cases h⟩
    have k1473 := ((k38.trans k55).trans k71).trans k73
    refine XCall.by (c_machine_Valid (hcode.kp0 k1473).nil (hC14.kp0 k1473)) ?_
    rintro _ H76 ⟨b77, rfl, hb77, k76⟩
    refine ⟨_, rfl, rfl, rfl, ?_⟩
    refine XCall.by (c_ref21_Valid (hcode.kp0 (k1473.trans k76)).nil (hC14.kp0 (k1473.trans k76))) ?_
    rintro _ H79 ⟨b80, rfl, hb80, k79⟩
    have e : b77 = b80 := Bool.eq_iff_iff.2 (hb77.trans hb80.symm)
    subst e
    exact ⟨_, rfl, fun _ => awake _ (((k014.trans k1473).trans k76).trans k79), fun h => by simp at h⟩
  exact ⟨fun _ => key _ _ _ (.inr ⟨rfl, rfl, rfl⟩), fun _ => key _ _ _ (.inl hu.at)⟩

end Go.Lg
