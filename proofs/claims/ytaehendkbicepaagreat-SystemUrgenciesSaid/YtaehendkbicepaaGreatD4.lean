/- The law of urgencies, as a contract. No condition. -/
import Derived.Test.YtaehendkbicepaaGreatD0
import Derived.Test.YtaehendkbicepaaGreatD3
set_option linter.unusedVariables false
namespace Go.Lg
open Go

theorem c_awake {H : LH} : Call prog f_law43_awake [] H (fun v H' => v = .bool true ∧ H' = H) := call_of_evIs mixed awake_43

theorem set_map {T : Type} (enc : T → Value) (l : List T) (i : Nat) (x : T) : setMany (l.map enc) i [enc x] = (l.set i x).map enc := by
  rw [List.map_set]; rfl

theorem bools_of_blk {H : LH} {b n c : Nat} {hs : List Bool} (h : Blk H b 1 (hs.map Value.bool)) (hl : hs.length = n) (hn : n ≤ 1000) : Bools H (some ⟨b, 0, none⟩) n c hs := by
  refine Ls.rows (rows := hs.map fun x => [Value.bool x]) ?_ (by intro r hr; obtain ⟨x, -, rfl⟩ := List.mem_map.1 hr; rfl) (by simp [hl]) hl (by omega) ?_ c
  · have e : (hs.map fun x => [Value.bool x]).flatten = hs.map Value.bool := by
      clear h hl
      induction hs with
      | nil => rfl
      | cons a l ih => simp only [List.map_cons, List.flatten_cons, ih]; rfl
    rw [e]; exact h.row
  · intro i r x h1 h2
    rw [List.getElem?_map, h2] at h1
    simp only [Option.map_some, Option.some.injEq] at h1
    exact h1.symm

theorem c_SystemUrgencies {H : LH} {p : Option Addr} {n c : Nat} {xs : List Int} (hx : Ints H p n c xs) {q : Option Addr} {m e : Nat} {ys : List AnsD} (hy : Ls RAns 2 H q m e ys) :
    Call prog f_law43_SystemUrgencies [.slice p n c, .slice q m e] H (fun v H' => v = .bool true ∧ Kp [] H H') := by
  refine F_law43_SystemUrgencies_call _ _ _ _ _ _ ?_
  unfold F_law43_SystemUrgencies
  have awake : ∀ H1, Kp [] H H1 → XCall prog f_law43_awake [] H1 (fun v H2 => ∃ b, v = .bool b ∧ ((Value.bool b) = .bool true ∧ Kp [] H H2)) := by
    intro H1 k1
    refine XCall.by c_awake ?_
    rintro _ _ ⟨rfl, rfl⟩
    exact ⟨_, rfl, rfl, k1⟩
  refine ⟨hy.nil, fun _ => awake _ Kp.refl, fun g => ?_⟩
  have g : (m : Int) ≤ 20 := by simpa using g
  refine XCall.by (c_make_New hx hx.lt) ?_
  rintro _ H5 ⟨rfl, hD5, k5⟩
  have hdlt : H.next < H5.next := by obtain ⟨_, _, _, _, _, hb, _⟩ := hD5.is; exact hb.lt
  refine ⟨_, rfl, XCall.by (c_Deck_Next hD5 (by omega)) ?_⟩
  rintro _ H8 ⟨x9, rfl, a0, a1, hD8, k8⟩
  have n8 := k8.next
  refine ⟨_, rfl, ?_⟩
  rw [wrap_id (x := 1 + x9) (by omega)]
  refine XCall.by (c_make2_Jobs hD8 (by omega) (by omega)) ?_
  rintro _ H11 ⟨p12, n13, n14, l, rfl, hl, hpd, hn13, hD11, k11⟩
  have n11 := k11.next
  have k5_11 : Kp [H.next] H5 H11 := k8.trans k11
  refine ⟨_, _, _, rfl, by omega, ?_⟩
  rintro H15 hH15
  obtain ⟨B, hB⟩ : ∃ B, B = H11.next := ⟨_, rfl⟩
  rw [← hB]
  have b15 : Blk H15 B 1 ((List.replicate 4 false).map Value.bool) := by rw [hH15, hB]; exact Blk.new _ _ _
  have k15 : Kp [] H11 H15 := by rw [hH15]; exact Kp.refl.new _
  have hD15 := hD11.kp0 k15
  clear hH15
  refine ⟨fun h => (by cases h), fun i H' => 0 ≤ i ∧ i ≤ 4 ∧ (∃ hs : List Bool, hs.length = 4 ∧ Blk H' B 1 (hs.map Value.bool)) ∧ DeckAt H' H.next ∧ Kp [H.next] H11 H', fun i _ => (4 - i).toNat, ⟨by omega, by omega, ⟨_, rfl, b15⟩, hD15, k15.any⟩, ?_⟩
  rintro i H19 ⟨h0, h1, ⟨hs, hsl, b19⟩, hD19, k19⟩
  refine ⟨fun g2 => ?_, fun g2 => ?_⟩
  · have g2 : i < 4 := by simpa using g2
    refine XCall.by (c_Deck_Next hD19 (by omega)) ?_
    rintro _ H21 ⟨x22, rfl, -, -, hD21, k21⟩
    have b21 := b19.kp k21 (by simp; omega)
    refine ⟨_, rfl, B, 0, rfl, h0, g2, _, _, b21.is, by simp [hsl]; omega, ?_⟩
    rintro _ rfl
    rw [wrap_id (x := i + 1) (by omega)]
    refine ⟨⟨by omega, by omega, ⟨hs.set (0 + i.toNat * 1) (decide (x22 = 0)), by simp [hsl], ?_⟩, ?_, ?_⟩, by show (4 - (i + 1)).toNat < (4 - i).toNat; omega⟩
    · rw [← set_map]; exact Blk.putAt b21.lt
    · exact hD21.kp (S := [B]) (Kp.refl.put (.inl (by simp)) _) (fun b hb => by simp at hb; omega)
    · exact (k19.trans k21).put (.inr (by omega)) _
  -- the urgencies
  have hheld : Bools H19 (some ⟨B, 0, none⟩) 4 4 hs := bools_of_blk b19 hsl (by omega)
  have hl19 : JobsAt H19 p12 n13 n14 l := (hl.kp k19 (fun a ha => by simpa using hpd a ha)).mono fun r y _ hr => hr.kp k19 (fun b hb => by simpa using hb) (fun _ _ _ => trivial)
  have k19' : Kp [] H H19 := k5.drop (k5_11.trans k19) (fun b hb => by simp at hb; omega)
  clear g2
  refine ⟨hl.nil, fun i H' => 0 ≤ i ∧ i ≤ n13 ∧ Kp [] H19 H', fun i _ => (n13 - i).toNat, ⟨by omega, by omega, Kp.refl⟩, ?_⟩
  rintro i H31 ⟨h0, h1, k31⟩
  refine ⟨fun g2 => XCall.by (c_system_Urgency (hl19.kp0 k31) (hheld.kp0 k31)) ?_, fun g2 => ?_⟩
  · have g2 : i < n13 := by simpa using g2
    rintro _ H33 ⟨rfl, k33⟩
    refine ⟨_, rfl, XCall.by (c_ref43_Urgency ((hl19.kp0 k31).kp0 k33) ((hheld.kp0 k31).kp0 k33)) ?_⟩
    rintro _ H36 ⟨rfl, k36⟩
    rw [wrap_id (x := i + 1) (by omega)]
    exact ⟨_, rfl, fun h => by simp at h, fun _ => ⟨⟨by omega, by omega, (k31.trans k33).trans k36⟩, by show (n13 - (i + 1)).toNat < (n13 - i).toNat; omega⟩⟩
  have kk := k19'.trans k31
  refine XCall.by (c_system_Budgets (hy.kp0 kk) (by omega)) ?_
  rintro _ H39 ⟨p40, n41, n42, rfl, ha, k39⟩
  refine ⟨_, _, _, rfl, XCall.by (c_ref43_Budgets (hy.kp0 (kk.trans k39)) (by omega)) ?_⟩
  rintro _ H44 ⟨p45, n46, n47, rfl, hb, k44⟩
  have la := ha.len
  have lb := hb.len
  have bb := hb.bound
  have kk44 := (kk.trans k39).trans k44
  refine ⟨_, _, _, rfl, ha.nil, hb.nil, fun g3 => ?_, fun g3 => ⟨hb.nil, fun i H' => 0 ≤ i ∧ i ≤ n46 ∧ Kp [] H44 H', fun i _ => (n46 - i).toNat, ⟨by omega, by omega, Kp.refl⟩, ?_⟩⟩
  · have g3 : ¬ (n41 : Int) = n46 := by simpa using g3
    omega
  rintro i H51 ⟨h0, h1, k51⟩
  refine ⟨fun g4 => ?_, fun g4 => awake _ (kk44.trans k51)⟩
  have g4 : i < n46 := by simpa using g4
  rintro _ rfl
  have k52 : Kp [] H44 (H51.keep 9) := k51.keep _
  obtain ⟨b, k, r, x, rfl, hx', rfl, -, hat⟩ := (ha.kp0 (k44.trans k52)).at h0 (by omega)
  obtain ⟨b2, k2, r2, x2, rfl, hx2, rfl, -, hat2⟩ := (hb.kp0 k52).at h0 g4
  rw [hx'] at hx2; cases hx2
  rw [wrap_id (x := i + 1) (by omega)]
  refine ⟨b, k, rfl, h0, by omega, x, hat 0 _ rfl, b2, k2, rfl, h0, g4, x, hat2 0 _ rfl, fun h => by simp at h, fun _ => ⟨⟨by omega, by omega, k52⟩, by show (n46 - (i + 1)).toNat < (n46 - i).toNat; omega⟩⟩

end Go.Lg
