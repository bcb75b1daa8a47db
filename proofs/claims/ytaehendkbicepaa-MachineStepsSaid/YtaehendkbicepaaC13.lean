/- The law of steps, as a contract. No condition. -/
import Derived.Test.YtaehendkbicepaaC11
set_option linter.unusedVariables false
namespace Go.Lg
open Go

theorem effect_len (x : InstrD) (a : Int) (C : CoreD) : (effect x a C).regs.length = C.regs.length ∧ (effect x a C).data.length = C.data.length ∧ (effect x a C).held.length = C.held.length := by
  unfold effect
  repeat' split
  all_goals simp [set_len]

theorem stepF_len (x : InstrD) (n : Nat) (C : CoreD) : (stepF x n C).2.2.regs.length = C.regs.length ∧ (stepF x n C).2.2.data.length = C.data.length ∧ (stepF x n C).2.2.held.length = C.held.length := by
  unfold stepF
  repeat' split
  all_goals first | exact ⟨rfl, rfl, rfl⟩ | exact effect_len _ _ _

theorem stepS_len (code : List InstrD) (m : Nat) (C : CoreD) : (stepS code m C).2.2.regs.length = C.regs.length ∧ (stepS code m C).2.2.data.length = C.data.length ∧ (stepS code m C).2.2.held.length = C.held.length := by
  unfold stepS
  repeat' split
  all_goals first | exact ⟨rfl, rfl, rfl⟩ | exact stepF_len _ _ _

/-- What the law has made before it begins to step: `B`: where its blocks lie; `d`: the deck. -/
structure Mk (B d : Nat) (H11 H' : LH) (rs ds : List Int) (hs : List Bool) : Prop where
  regs : Blk H' (B + 0) 1 (rs.map (Value.int .i64))
  data : Blk H' (B + 3) 1 (ds.map (Value.int .i64))
  held : Blk H' (B + 4) 1 (hs.map Value.bool)
  rl : rs.length = 8
  dl : ds.length = 6
  hl : hs.length = 4
  deck : DeckAt H' d
  kp : Kp [d] H11 H'

theorem Mk.go {B d : Nat} {H11 H' H2 : LH} {rs ds : List Int} {hs : List Bool} (h : Mk B d H11 H' rs ds hs) (hd : d < B) (hk : Kp [d] H' H2) (hD : DeckAt H2 d) : Mk B d H11 H2 rs ds hs :=
  ⟨h.regs.kp hk (by simp; omega), h.data.kp hk (by simp; omega), h.held.kp hk (by simp; omega), h.rl, h.dl, h.hl, hD, h.kp.trans hk⟩

theorem Mk.keep {B d : Nat} {H11 H' : LH} {rs ds : List Int} {hs : List Bool} (h : Mk B d H11 H' rs ds hs) (hd : d < B) (n : Nat) : Mk B d H11 (H'.keep n) rs ds hs :=
  h.go hd (Kp.refl.keep _) (h.deck.kp0 (Kp.refl.keep _))

theorem set_map {T : Type} (enc : T → Value) (l : List T) (i : Nat) (x : T) : setMany (l.map enc) i [enc x] = (l.set i x).map enc := by
  rw [setMany_one, List.map_set]

theorem Mk.putR {B d : Nat} {H11 H' : LH} {rs ds : List Int} {hs : List Bool} (h : Mk B d H11 H' rs ds hs) (hd : d < B) (hB : B = H11.next) (i : Nat) (x : Int) :
    Mk B d H11 (H'.put (B + 0) (some (.cells (setMany (rs.map (Value.int .i64)) i [.int .i64 x]) 1 false))) (rs.set i x) ds hs := by
  have hlt := h.regs.lt
  have hk : Kp [B + 0] H' (H'.put (B + 0) (some (.cells (setMany (rs.map (Value.int .i64)) i [.int .i64 x]) 1 false))) := Kp.refl.put (.inl (by simp)) _
  refine ⟨by rw [← set_map]; exact Blk.putAt hlt, h.data.kp hk (by simp), h.held.kp hk (by simp), by simp [h.rl], h.dl, h.hl, h.deck.kp hk (fun b hb => by simp at hb; omega), ?_⟩
  exact h.kp.put (.inr (by omega)) _

theorem Mk.putD {B d : Nat} {H11 H' : LH} {rs ds : List Int} {hs : List Bool} (h : Mk B d H11 H' rs ds hs) (hd : d < B) (hB : B = H11.next) (i : Nat) (x : Int) :
    Mk B d H11 (H'.put (B + 3) (some (.cells (setMany (ds.map (Value.int .i64)) i [.int .i64 x]) 1 false))) rs (ds.set i x) hs := by
  have hlt := h.data.lt
  have hk : Kp [B + 3] H' (H'.put (B + 3) (some (.cells (setMany (ds.map (Value.int .i64)) i [.int .i64 x]) 1 false))) := Kp.refl.put (.inl (by simp)) _
  refine ⟨h.regs.kp hk (by simp), by rw [← set_map]; exact Blk.putAt hlt, h.held.kp hk (by simp), h.rl, by simp [h.dl], h.hl, h.deck.kp hk (fun b hb => by simp at hb; omega), ?_⟩
  exact h.kp.put (.inr (by omega)) _

theorem Mk.putH {B d : Nat} {H11 H' : LH} {rs ds : List Int} {hs : List Bool} (h : Mk B d H11 H' rs ds hs) (hd : d < B) (hB : B = H11.next) (i : Nat) (x : Bool) :
    Mk B d H11 (H'.put (B + 4) (some (.cells (setMany (hs.map Value.bool) i [.bool x]) 1 false))) rs ds (hs.set i x) := by
  have hlt := h.held.lt
  have hk : Kp [B + 4] H' (H'.put (B + 4) (some (.cells (setMany (hs.map Value.bool) i [.bool x]) 1 false))) := Kp.refl.put (.inl (by simp)) _
  refine ⟨h.regs.kp hk (by simp), h.data.kp hk (by simp), by rw [← set_map]; exact Blk.putAt hlt, h.rl, h.dl, by simp [h.hl], h.deck.kp hk (fun b hb => by simp at hb; omega), ?_⟩
  exact h.kp.put (.inr (by omega)) _

theorem c_MachineSteps {H : LH} {p : Option Addr} {n c : Nat} {xs : List Int} (hx : Ints H p n c xs) (hlt : ∀ a, p = some a → a.block < H.next) (k : Int) (hk0 : 0 ≤ k) (hk1 : k ≤ 255) :
    Call prog f_law21_MachineSteps [.slice p n c, .int .u8 k] H (fun v H' => v = .bool true ∧ Kp [] H H') := by
  refine F_law21_MachineSteps_call _ _ _ _ ?_
  unfold F_law21_MachineSteps
  have awake : ∀ H1, Kp [] H H1 → XCall prog f_law21_awake [] H1 (fun v H2 => ∃ b, v = .bool b ∧ ((Value.bool b) = .bool true ∧ Kp [] H H2)) := by
    intro H1 k1
    refine XCall.by c_awake ?_
    rintro _ _ ⟨rfl, rfl⟩
    exact ⟨_, rfl, rfl, k1⟩
  refine XCall.by (c_make_Few hx.nil) ?_
  rintro _ H2 ⟨rfl, e2⟩
  obtain rfl := e2.symm
  refine ⟨_, rfl, fun g => awake _ Kp.refl, fun g => ?_⟩
  refine XCall.by (c_make_New hx hlt) ?_
  rintro _ H8 ⟨rfl, hD, k8⟩
  have hdlt : H.next < H8.next := by obtain ⟨_, _, _, _, _, hb, _⟩ := hD.is; exact hb.lt
  refine ⟨_, rfl, XCall.by (c_straight hD hdlt) ?_⟩
  rintro _ H11 ⟨p12, n13, n14, q, m, e, code, nodes, rfl, str, hcode, hcd, hu, k11, hD11⟩
  have hcl := hcode.len
  have hhi := str.hi
  have hlo := str.lo
  refine ⟨_, _, _, _, _, _, _, _, _, _, rfl, ?_⟩
  obtain ⟨d, hd⟩ : ∃ d, d = H.next := ⟨_, rfl⟩
  rw [← hd] at hcd hu k11 hD11 hdlt ⊢
  have k011 : Kp [] H H11 := k8.drop k11 (fun b hb => by simp at hb; omega)
  obtain ⟨B, hB⟩ : ∃ B, B = H11.next := ⟨_, rfl⟩
  have hdB : d < B := by have := k11.next; omega
  rw [← hB]
  rintro H22 hH22
  have k22 : Kp [] H11 H22 := by rw [hH22]; exact Kp.refl.keep _
  have n22 : H22.next = B + 13 := by rw [hH22, hB]; rfl
  clear hH22
  refine ⟨hcode.nil, ⟨by omega, fun _ _ => trivial⟩, ⟨by omega, fun _ _ => trivial⟩, ⟨by omega, fun _ _ => trivial⟩, trivial, ?_⟩
  refine XCall.by (c_Deck_Next (hD11.kp0 k22) (by omega)) ?_
  rintro _ H27 ⟨pc, rfl, -, -, hD27, k27⟩
  refine ⟨_, rfl, rfl, by omega, ?_⟩
  have n27 : B + 13 ≤ H27.next := by have := k27.next; omega
  have kk27 : Kp [d] H11 H27 := k22.any.trans k27
  rintro H29 hH29
  refine ⟨by omega, ?_⟩
  rintro H30 hH30
  refine ⟨by omega, ?_⟩
  rintro H31 hH31
  have mk31 : Mk B d H11 H31 (List.replicate 8 0) (List.replicate 6 0) (List.replicate 4 false) := by
    have a29 : Kp [d] H11 H29 := by rw [hH29]; exact kk27.put (.inr (by omega)) _
    have b29 : Blk H29 (B + 0) 1 ((List.replicate 8 (0 : Int)).map (Value.int .i64)) := by rw [hH29]; exact Blk.putAt (by omega)
    have n29 : H29.next = H27.next := by rw [hH29]; rfl
    have d29 : DeckAt H29 d := by rw [hH29]; exact hD27.kp (S := [B + 0]) (Kp.refl.put (.inl (by simp)) _) (fun b hb => by simp at hb; omega)
    clear hH29
    have a30 : Kp [d] H11 H30 := by rw [hH30]; exact a29.put (.inr (by omega)) _
    have b30 : Blk H30 (B + 3) 1 ((List.replicate 6 (0 : Int)).map (Value.int .i64)) := by rw [hH30]; exact Blk.putAt (by omega)
    have n30 : H30.next = H27.next := by rw [hH30]; exact n29
    have x30 : Kp [B + 3] H29 H30 := by rw [hH30]; exact Kp.refl.put (.inl (by simp)) _
    clear hH30
    have a31 : Kp [d] H11 H31 := by rw [hH31]; exact a30.put (.inr (by omega)) _
    have b31 : Blk H31 (B + 4) 1 ((List.replicate 4 false).map Value.bool) := by rw [hH31]; exact Blk.putAt (by omega)
    have x31 : Kp [B + 4] H30 H31 := by rw [hH31]; exact Kp.refl.put (.inl (by simp)) _
    clear hH31
    exact ⟨(b29.kp x30 (by simp)).kp x31 (by simp), b30.kp x31 (by simp), b31, rfl, rfl, rfl, (d29.kp x30 (fun b hb => by simp at hb; omega)).kp x31 (fun b hb => by simp at hb; omega), a31⟩
  clear hH29 hH30 hH31
  refine ⟨fun i H' => 1 ≤ i ∧ i ≤ 8 ∧ ∃ rs ds hs, Mk B d H11 H' rs ds hs, fun i _ => (8 - i).toNat, ⟨by omega, by omega, _, _, _, mk31⟩, ?_⟩
  rintro i H35 ⟨hi1, hi8, rs, ds, hs, mk35⟩
  refine ⟨fun h => ?_, fun h => ?_⟩
  · have h : i < 8 := by simpa using h
    rintro _ rfl
    have mk36 := mk35.keep hdB 7
    refine XCall.by (c_Deck_Word mk36.deck) ?_
    rintro _ H38 ⟨x, rfl, -, -, hD38, k38⟩
    have mk38 := mk36.go hdB k38 hD38
    refine ⟨_, rfl, rfl, B + 0, 0, rfl, by omega, h, _, _, mk38.regs.is, by have := mk38.rl; simp; omega, ?_⟩
    rintro _ rfl
    rw [wrap_id (x := i + 1) (by omega)]
    exact ⟨⟨by omega, by omega, _, _, _, mk38.putR hdB hB _ _⟩, by show (8 - (i + 1)).toNat < (8 - i).toNat; omega⟩
  clear mk31 h
  refine ⟨fun i H' => 0 ≤ i ∧ i ≤ 6 ∧ ∃ rs ds hs, Mk B d H11 H' rs ds hs, fun i _ => (6 - i).toNat, ⟨by omega, by omega, _, _, _, mk35⟩, ?_⟩
  clear mk35
  rintro i H48 ⟨hi1, hi8, rs, ds, hs, mk48⟩
  refine ⟨fun h => (by cases h), fun h => ?_, fun h => ?_⟩
  · have h : i < 6 := by simpa using h
    rintro _ rfl
    have mk49 := mk48.keep hdB 7
    refine XCall.by (c_Deck_Word mk49.deck) ?_
    rintro _ H51 ⟨x, rfl, -, -, hD51, k51⟩
    have mk51 := mk49.go hdB k51 hD51
    refine ⟨_, rfl, rfl, B + 3, 0, rfl, by omega, h, _, _, mk51.data.is, by have := mk51.dl; simp; omega, ?_⟩
    rintro _ rfl
    rw [wrap_id (x := i + 1) (by omega)]
    exact ⟨⟨by omega, by omega, _, _, _, mk51.putD hdB hB _ _⟩, by show (6 - (i + 1)).toNat < (6 - i).toNat; omega⟩
  clear h
  rintro _ rfl
  have mk58 := mk48.keep hdB 7
  refine XCall.by (c_Deck_Next mk58.deck (by omega)) ?_
  rintro _ H60 ⟨x, rfl, -, -, hD60, k60⟩
  have mk60 := mk58.go hdB k60 hD60
  refine ⟨_, rfl, rfl, B + 4, 0, rfl, by omega, by omega, _, _, mk60.held.is, by have := mk60.hl; simp; omega, ?_⟩
  rintro H66 hH66
  have mk66 : Mk B d H11 H66 rs ds (hs.set (0 + 0) (decide (x = 1))) := by rw [hH66]; exact mk60.putH hdB hB _ _
  clear hH66 mk60 mk58 mk48
  intro K67 hK67
  -- the steps
  have key : ∀ H68 rs ds hs, Mk B d H11 H68 rs ds hs → K67 H68 := by
    intro H68 rs ds hs mk
    refine hK67 _ ?_
    have k68 : Kp [] H H68 := k8.drop (k11.trans mk.kp) (fun b hb => by simp at hb; omega)
    have hcode68 := hcode.kp mk.kp (fun a ha => by simpa using hcd a ha)
    have hu68 := (hu.kp mk.kp).at
    refine ⟨fun p1 n1 c1 p2 n2 c2 p3 n3 c3 pc ended i H' => 0 ≤ i ∧ Kp [] H68 H' ∧ n1 ≤ 1000000 ∧ n2 ≤ 1000000 ∧ n3 ≤ 1000000 ∧ ∃ C, CoreAt H' p1 n1 c1 p2 n2 c2 p3 n3 c3 pc ended C,
      fun p1 n1 c1 p2 n2 c2 p3 n3 c3 pc ended i H' => (30 - i).toNat, ⟨by omega, Kp.refl, by omega, by simp, by omega, ⟨rs, ds, hs, pc, false⟩, ⟨?_, ?_, ?_, rfl, rfl⟩⟩, ?_⟩
    · exact OwnV.ls (enc := Value.int .i64) (B := 0) ⟨mk.rl, fun hh => (by cases hh), fun a ha => (by cases ha; exact ⟨rfl, rfl, mk.regs, Nat.zero_le _⟩)⟩ (by omega)
    · exact OwnV.ls (enc := Value.int .i64) (B := 0) ⟨mk.dl, fun hh => (by cases hh), fun a ha => (by cases ha; exact ⟨rfl, rfl, mk.data, Nat.zero_le _⟩)⟩ (by simp)
    · exact OwnV.ls (enc := Value.bool) (B := 0) ⟨mk.hl, fun hh => (by cases hh), fun a ha => (by cases ha; exact ⟨rfl, rfl, mk.held, Nat.zero_le _⟩)⟩ (by omega)
    rintro p71 n72 n73 p74 n75 n76 p77 n78 n79 x80 b81 i H83 ⟨hi0, k83, l1, l2, l3, C, hC⟩
    have hw : IntKind.wrap .i64 k = k := wrap_id (by omega)
    rw [hw]
    have ht : Int.tmod k 30 < 30 := Int.tmod_lt_of_pos k (by omega)
    refine ⟨by omega, fun g => ?_, fun _ => awake _ (k68.trans k83)⟩
    have g : i < Int.tmod k 30 := by simpa using g
    have hcode83 := hcode68.kp0 k83
    have hu83 := hu68.kp k83
    refine XCall.by (c_machine_Step str hcode83 (.inl hu83) hC l1 l2 l3 _ _ _) ?_
    rintro _ H85 ⟨⟨p86, n87, n88, p89, n90, n91, p92, n93, n94, rfl, hC85⟩, k85⟩
    refine ⟨_, _, _, _, _, _, _, _, _, _, _, _, _, _, _, rfl, ?_⟩
    refine XCall.by (c_ref21_Step str (hcode83.kp0 k85) (.inl (hu83.kp k85)) (hC.kp0 k85) l1 l2 l3 _ _ _) ?_
    rintro _ H102 ⟨⟨p103, n104, n105, p106, n107, n108, p109, n110, n111, rfl, hC102⟩, k102⟩
    refine ⟨_, _, _, _, _, _, _, _, _, _, _, _, _, _, _, rfl, ?_⟩
    rintro _ rfl
    have k118 : Kp [] H102 (H102.keep 23) := Kp.refl.keep _
    refine ⟨fun h => by simp at h, fun _ => ⟨fun h => by simp at h, fun _ => ?_⟩⟩
    refine XCall.by (c_ref21_Same (hC85.kp0 (k102.trans k118)) (hC102.kp0 k118)) ?_
    rintro _ H120 ⟨rfl, k120⟩
    refine ⟨_, rfl, fun h => by simp at h, fun _ => ?_⟩
    have kk := ((k85.trans k102).trans k118).trans k120
    refine XCall.by (c_machine_Valid (hcode83.kp0 kk).nil (hC.kp0 kk)) ?_
    rintro _ H123 ⟨b124, rfl, hb124, k123⟩
    refine ⟨_, rfl, rfl, rfl, ?_⟩
    refine XCall.by (c_ref21_Valid (hcode83.kp0 (kk.trans k123)).nil (hC.kp0 (kk.trans k123))) ?_
    rintro _ H126 ⟨b127, rfl, hb127, k126⟩
    have e : b124 = b127 := Bool.eq_iff_iff.2 (hb124.trans hb127.symm)
    subst e
    have kk126 := (kk.trans k123).trans k126
    refine ⟨_, rfl, fun h => by simp at h, fun _ => ⟨fun _ => awake _ ((k68.trans k83).trans kk126), fun _ => ?_⟩⟩
    rw [wrap_id (x := i + 1) (by omega)]
    obtain ⟨e1, e2, e3⟩ := stepS_len code m C
    have f1 := hC102.regs.len
    have f2 := hC102.data.len
    have f3 := hC102.held.len
    have g1 := hC.regs.len
    have g2 := hC.data.len
    have g3 := hC.held.len
    exact ⟨⟨by omega, k83.trans kk126, by omega, by omega, by omega, _, hC102.kp0 (((k118.trans k120).trans k123).trans k126)⟩, by show (30 - (i + 1)).toNat < (30 - i).toNat; omega⟩
  refine XCall.by (c_Deck_Next mk66.deck (by omega)) ?_
  rintro _ H136 ⟨y, rfl, -, -, hD136, k136⟩
  have mk136 := mk66.go hdB k136 hD136
  refine ⟨_, rfl, fun _ => ?_, fun _ => key _ _ _ _ mk136⟩
  refine ⟨B + 0, 0, rfl, by omega, by omega, _, _, mk136.regs.is, by have := mk136.rl; simp; omega, ?_⟩
  rintro _ rfl
  exact key _ _ _ _ (mk136.putR hdB hB _ _)

end Go.Lg
