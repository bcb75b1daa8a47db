/- Jobs that are made, budgets. No condition. -/
import Derived.Test.YtaehendkbicepaaGreatD2
set_option linter.unusedVariables false
namespace Go.Lg
open Go

theorem c_make2_Jobs {H : LH} {d : Nat} {k : Int} (hD : DeckAt H d) (hd : d < H.next) (hk : k ≤ 100) :
    Call prog f_make2_Jobs [.pointer (some ⟨d, 0, none⟩), .int .i64 k] H (fun v H' => ∃ p n c l, v = .slice p n c ∧ Ls (RJob (fun b => b ≠ d) H') 7 H' p n c l ∧ (∀ a, p = some a → a.block ≠ d) ∧ n ≤ 100 ∧ DeckAt H' d ∧ Kp [d] H H') := by
  refine F_make2_Jobs_call _ _ ?_
  unfold F_make2_Jobs
  refine ⟨fun p n c i H' => 0 ≤ i ∧ (n : Int) = i ∧ n ≤ 100 ∧ ∃ l, Ls (RJob (fun b => H.next ≤ b ∧ ∀ a, p = some a → b ≠ a.block) H') 7 H' p n c l ∧ Own H' 7 p n c ∧ (∀ a, p = some a → H.next ≤ a.block) ∧ DeckAt H' d ∧ Kp [d] H H',
    fun p n c i H' => (k - i).toNat, ⟨by omega, rfl, by omega, [], Ls.nilList, fun a h => (by cases h), fun a h => (by cases h), hD, Kp.refl⟩, ?_⟩
  rintro p3 n4 n5 i H7 ⟨hi0, hni, hn, l, hl, hown, hge, hD7, k7⟩
  have ll := hl.len
  have hlt := hl.lt
  have nx7 := k7.next
  refine ⟨fun g => ?_, fun g => ?_⟩
  · have g : i < k := by simpa using g
    refine XCall.by (c_Deck_Next hD7 (by omega)) ?_
    rintro _ H9 ⟨x10, rfl, a0, a1, hD9, k9⟩
    refine ⟨_, rfl, XCall.by (c_Deck_Next hD9 (by omega)) ?_⟩
    rintro _ H12 ⟨x13, rfl, b0, b1, hD12, k12⟩
    refine ⟨_, rfl, XCall.by (c_Deck_Next hD12 (by omega)) ?_⟩
    rintro _ H15 ⟨x16, rfl, c0, c1, hD15, k15⟩
    refine ⟨_, rfl, XCall.by (c_Deck_Next hD15 (by omega)) ?_⟩
    rintro _ H18 ⟨x19, rfl, d0, d1, hD18, k18⟩
    refine ⟨_, rfl, XCall.by (c_Deck_Next hD18 (by omega)) ?_⟩
    rintro _ H21 ⟨x22, rfl, e0, e1, hD21, k21⟩
    refine ⟨_, rfl, ?_⟩
    rintro H23 hH23
    have k23 : Kp [d] H21 H23 := by rw [hH23]; exact Kp.refl.keep _
    have hD23 : DeckAt H23 d := by rw [hH23]; exact hD21.kp0 (Kp.refl.keep _)
    clear hH23
    refine XCall.by (c_Deck_Next hD23 (by omega)) ?_
    rintro _ H25 ⟨x26, rfl, f0, f1, hD25, k25⟩
    refine ⟨_, rfl, rfl, XCall.by (c_Deck_Next hD25 (by omega)) ?_⟩
    rintro _ H28 ⟨x29, rfl, g0, g1, hD28, k28⟩
    have k728 : Kp [d] H7 H28 := ((((((k9.trans k12).trans k15).trans k18).trans k21).trans k23).trans k25).trans k28
    have nx28 := k728.next
    refine ⟨_, rfl, ?_⟩
    refine ⟨fun x32 x33 x34 x35 x36 p n c x40 j H' => 0 ≤ j ∧ (n : Int) + j ≤ 2 ∧ ∃ hs, Ls RHold 2 H' p n c hs ∧ Own H' 2 p n c ∧ (∀ a, p = some a → H28.next ≤ a.block) ∧ DeckAt H' d ∧ Kp [d] H28 H',
      fun x32 x33 x34 x35 x36 p n c x40 j H' => j.toNat, ⟨g0, by omega, [], Ls.nilList, fun a h => (by cases h), fun a h => (by cases h), hD28, Kp.refl⟩, ?_⟩
    rintro x32 x33 x34 x35 x36 p37 n38 n39 x40 j H42 ⟨hj0, hj2, hs, hhs, hsown, hsge, hD42, k42⟩
    have ls := hhs.len
    have hslt := hhs.lt
    have nx42 := k42.next
    refine ⟨fun g => ?_, fun g => ?_⟩
    · have g : 0 < j := by simpa using g
      rintro H43 hH43
      have k43 : Kp [d] H42 H43 := by rw [hH43]; exact Kp.refl.keep _
      have hD43 : DeckAt H43 d := by rw [hH43]; exact hD42.kp0 (Kp.refl.keep _)
      have n43 : H43.next = H42.next + 11 := by rw [hH43]; rfl
      clear hH43
      refine XCall.by (c_Deck_Next hD43 (by omega)) ?_
      rintro _ H45 ⟨x46, rfl, -, -, hD45, k45⟩
      refine ⟨_, rfl, rfl, XCall.by (c_Deck_Next hD45 (by omega)) ?_⟩
      rintro _ H48 ⟨x49, rfl, -, -, hD48, k48⟩
      refine ⟨_, rfl, rfl, ?_⟩
      have k4248 := (k43.trans k45).trans k48
      have n48 : H42.next + 11 ≤ H48.next := by have := k45.next; have := k48.next; omega
      rintro H50 hH50
      have b50 : Blk H50 (H42.next + 7) 2 [.int .i64 x46, .int .i64 x49] := by rw [hH50]; exact Blk.putAt (by omega)
      have x50 : Kp [H42.next + 7] H48 H50 := by rw [hH50]; exact Kp.refl.put (.inl (by simp)) _
      have k4250 : Kp [d] H42 H50 := by rw [hH50]; exact k4248.put (.inr (by omega)) _
      have n50 : H50.next = H48.next := by rw [hH50]; rfl
      clear hH50
      have hD50 : DeckAt H50 d := hD48.kp x50 (fun b hb => by simp at hb; omega)
      have hd42 : d < H42.next := by omega
      have hhs50 : Ls RHold 2 H50 p37 n38 n39 hs := hhs.kp k4250 (fun a ha => by have := hsge a ha; simp; omega)
      have own50 : Own H50 2 p37 n38 n39 := fun a ha hc => by
        obtain ⟨cs, hcs⟩ := hsown a ha hc
        exact ⟨cs, by rw [k4250.get _ (hslt a ha) (by have := hsge a ha; simp; omega)]; exact hcs⟩
      obtain ⟨H54, e1, hl54, own54, nx54, al54, fr54⟩ := hhs50.append (by_ := 16) (al := some (H42.next + 8)) own50 (Ls.one (R := RHold) (x := ⟨x46, x49⟩) b50 rfl rfl 1) (by omega) (by omega) (by omega)
        (fun b hb => by cases hb; exact ⟨by omega, fun a ha _ => by have := hslt a ha; omega⟩)
      simp only [Option.getD_some] at e1 hl54 own54 al54 fr54
      refine ⟨_, _, _, H54, e1, ?_, by show (IntKind.wrap .i64 (j - 1)).toNat < j.toNat; rw [wrap_id (by omega)]; omega⟩
      rw [wrap_id (x := j - 1) (by omega)]
      have k2854 : Kp [d] H28 H54 := by
        refine ⟨by omega, fun b hb1 hb2 => ?_⟩
        rw [fr54 b (by omega) (fun a ha _ => by have := hsge a ha; omega), k4250.get b (by omega) hb2, k42.get b hb1 hb2]
      refine ⟨by omega, by omega, _, hl54, own54, fun a ha => (by cases ha; show H28.next ≤ H42.next + 8; omega), ?_, k2854⟩
      have dk : Kp (blkOf p37 ++ [H42.next + 8]) H50 H54 := ⟨by omega, fun b hb1 hb2 => fr54 b (fun e => hb2 (by simp [e])) (fun a ha _ e => hb2 (by subst e; subst ha; simp [blkOf]))⟩
      refine hD50.kp dk (fun b hb => ?_)
      rw [List.mem_append] at hb
      rcases hb with hb | hb
      · cases p37 with
        | none => simp [blkOf] at hb
        | some a => simp [blkOf] at hb; have := hsge a rfl; omega
      · simp at hb; omega
    · rintro _ rfl
      have k742 : Kp [d] H7 H42 := k728.trans k42
      have hl42 : Ls (RJob (fun b => H.next ≤ b ∧ ∀ a, p3 = some a → b ≠ a.block) H42) 7 H42 p3 n4 n5 l :=
        (hl.kp k742 (fun a ha => by have := hge a ha; simp; omega)).mono fun r y _ hr => hr.kp k742 (fun b hb => by simp; omega) (fun b _ hb => hb)
      have own42 : Own H42 7 p3 n4 n5 := fun a ha hc => by
        obtain ⟨cs, hcs⟩ := hown a ha hc
        exact ⟨cs, by rw [k742.get _ (hlt a ha) (by have := hge a ha; simp; omega)]; exact hcs⟩
      have hrow : RJob (fun b => H.next ≤ b ∧ ∀ a, p3 = some a → b ≠ a.block) H42 [.int .i64 x32, .int .i64 x33, .int .i64 x34, .int .i64 x35, .int .i64 x36, .slice p37 n38 n39, .int .i64 x40] ⟨x32, x33, x34, x35, x36, hs, x40⟩ :=
        ⟨_, _, _, rfl, hhs, fun a ha => by have := hsge a ha; exact ⟨by omega, fun a' ha' => by have := hlt a' ha'; omega⟩⟩
      obtain ⟨H59, e1, hl59, own59, nx59, kx⟩ := hl42.append1 (row := [.int .i64 x32, .int .i64 x33, .int .i64 x34, .int .i64 x35, .int .i64 x36, .slice p37 n38 n39, .int .i64 x40]) (by_ := 72) own42 rfl hrow (by omega) (by omega) (fun a ha => by have := hlt a ha; omega)
      refine ⟨_, _, _, H59, e1, ?_, by show (k - IntKind.wrap .i64 (i + 1)).toNat < (k - i).toNat; rw [wrap_id (by omega)]; omega⟩
      rw [wrap_id (x := i + 1) (by omega)]
      refine ⟨by omega, by omega, by omega, _, hl59.mono fun r y _ hr => ?_, own59, fun a ha => (by cases ha; show H.next ≤ H42.next + 1; omega), ?_, ?_⟩
      · exact hr.kp kx (fun b hb => blkOf_not hb.2) (fun b hb1 hb => ⟨hb.1, fun a ha => (by cases ha; show b ≠ H42.next + 1; omega)⟩)
      · refine hD42.kp kx (fun b hb => ?_)
        cases p3 with
        | none => simp [blkOf] at hb
        | some a => simp [blkOf] at hb; have := hge a rfl; omega
      · refine ⟨by omega, fun b hb1 hb2 => ?_⟩
        rw [kx.get b (by omega) (blkOf_not fun a ha => by have := hge a ha; omega), k742.get b (by omega) hb2, k7.get b hb1 hb2]
  · exact ⟨_, _, _, l, rfl, hl.mono fun r y _ hr => hr.kp (S := []) Kp.refl (fun _ _ hb => by cases hb) (fun b _ hb => by have := hb.1; omega), fun a ha => by have := hge a ha; omega, hn, hD7, k7⟩

structure AnsD where
  a : Int
  resp : Int
def RAns (r : List Value) (x : AnsD) : Prop := r = [.int .i64 x.a, .int .i64 x.resp]

theorem c_system_Budgets {H : LH} {p : Option Addr} {n c : Nat} {xs : List AnsD} (h : Ls RAns 2 H p n c xs) (hn : n ≤ 20) :
    Call prog f_system_Budgets [.slice p n c] H (fun v H' => ∃ q m d, v = .slice q m d ∧ Ints H' q m d (xs.map (·.resp)) ∧ Kp [] H H') := by
  refine F_system_Budgets_call _ _ _ ?_
  unfold F_system_Budgets
  have ll := h.len
  refine ⟨h.nil, fun q m d i H' => 0 ≤ i ∧ i ≤ n ∧ (m : Int) = i ∧ Ints H' q m d ((xs.take i.toNat).map (·.resp)) ∧ Own H' 1 q m d ∧ (∀ a, q = some a → H.next ≤ a.block) ∧ Kp [] H H',
    fun q m d i H' => (n - i).toNat, ⟨by omega, by omega, rfl, Ls.nilList, fun a h => (by cases h), fun a h => (by cases h), Kp.refl⟩, ?_⟩
  rintro q m d i H7 ⟨h0, h1, hm, hx, hown, hge, k7⟩
  refine ⟨fun g => ?_, fun g => ?_⟩
  · have g : i < n := by simpa using g
    obtain ⟨b, k, r, y, rfl, hy, rfl, -, hat⟩ := (h.kp0 k7).at h0 g
    refine ⟨b, k, rfl, h0, g, _, hat 0 _ rfl, _, hat 1 _ rfl, ?_⟩
    rintro _ rfl
    obtain ⟨H16, e1, hl16, own16, nx16, kx⟩ := hx.append1 (row := [.int .i64 y.resp]) (x := y.resp) (by_ := 8) hown rfl rfl (by omega) (by omega) hx.lt
    refine ⟨_, _, _, H16, e1, ?_, by show (n - IntKind.wrap .i64 (i + 1)).toNat < (n - i).toNat; rw [wrap_id (by omega)]; omega⟩
    rw [wrap_id (x := i + 1) (by omega)]
    have nx := k7.next
    refine ⟨by omega, by omega, by omega, ?_, own16, fun a ha => (by cases ha; show H.next ≤ H7.next + 1; omega), k7.drop kx (fun b hb => ?_)⟩
    · rw [show (i + 1).toNat = i.toNat + 1 by omega, List.take_add_one, hy, List.map_append]
      exact hl16
    · cases q with
      | none => simp [blkOf] at hb
      | some a => simp [blkOf] at hb; have := hge a rfl; omega
  · have g : n ≤ i := by simpa using g
    rw [List.take_of_length_le (by omega)] at hx
    exact ⟨_, _, _, rfl, hx, k7⟩

theorem c_ref43_Budgets {H : LH} {p : Option Addr} {n c : Nat} {xs : List AnsD} (h : Ls RAns 2 H p n c xs) (hn : n ≤ 20) :
    Call prog f_ref43_Budgets [.slice p n c] H (fun v H' => ∃ q m d, v = .slice q m d ∧ Ints H' q m d (xs.map (·.resp)) ∧ Kp [] H H') := by
  refine F_ref43_Budgets_call _ _ _ ?_
  unfold F_ref43_Budgets
  have ll := h.len
  refine ⟨h.nil, fun q m d i H' => 0 ≤ i ∧ i ≤ n ∧ (m : Int) = i ∧ Ints H' q m d ((xs.take i.toNat).map (·.resp)) ∧ Own H' 1 q m d ∧ (∀ a, q = some a → H.next ≤ a.block) ∧ Kp [] H H',
    fun q m d i H' => (n - i).toNat, ⟨by omega, by omega, rfl, Ls.nilList, fun a h => (by cases h), fun a h => (by cases h), Kp.refl⟩, ?_⟩
  rintro q m d i H7 ⟨h0, h1, hm, hx, hown, hge, k7⟩
  refine ⟨fun g => ?_, fun g => ?_⟩
  · have g : i < n := by simpa using g
    obtain ⟨b, k, r, y, rfl, hy, rfl, -, hat⟩ := (h.kp0 k7).at h0 g
    refine ⟨b, k, rfl, h0, g, _, hat 0 _ rfl, _, hat 1 _ rfl, ?_⟩
    rintro _ rfl
    obtain ⟨H16, e1, hl16, own16, nx16, kx⟩ := hx.append1 (row := [.int .i64 y.resp]) (x := y.resp) (by_ := 8) hown rfl rfl (by omega) (by omega) hx.lt
    refine ⟨_, _, _, H16, e1, ?_, by show (n - IntKind.wrap .i64 (i + 1)).toNat < (n - i).toNat; rw [wrap_id (by omega)]; omega⟩
    rw [wrap_id (x := i + 1) (by omega)]
    have nx := k7.next
    refine ⟨by omega, by omega, by omega, ?_, own16, fun a ha => (by cases ha; show H.next ≤ H7.next + 1; omega), k7.drop kx (fun b hb => ?_)⟩
    · rw [show (i + 1).toNat = i.toNat + 1 by omega, List.take_add_one, hy, List.map_append]
      exact hl16
    · cases q with
      | none => simp [blkOf] at hb
      | some a => simp [blkOf] at hb; have := hge a rfl; omega
  · have g : n ≤ i := by simpa using g
    rw [List.take_of_length_le (by omega)] at hx
    exact ⟨_, _, _, rfl, hx, k7⟩

end Go.Lg
