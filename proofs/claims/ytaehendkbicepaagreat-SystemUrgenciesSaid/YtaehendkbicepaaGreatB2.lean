/- Parts of lists. No condition. -/
import Derived.Test.YtaehendkbicepaaGreatB1
set_option linter.unusedVariables false
namespace Go.Lg
open Go
variable {T : Type} {R R' : List Value → T → Prop} {s : Nat} {H H' : LH} {p : Option Addr} {n c : Nat} {xs : List T} {S : List Nat}

theorem flatten_drop : ∀ {rows : List (List Value)} {s : Nat}, (∀ r ∈ rows, r.length = s) → ∀ k : Nat, (rows.drop k).flatten = rows.flatten.drop (k * s)
  | [], s, _, k => by simp
  | r :: rows, s, h, 0 => by simp
  | r :: rows, s, h, k + 1 => by
    have hr := h r (by simp)
    have h1 : r.drop ((k + 1) * s) = [] := List.drop_eq_nil_of_le (by rw [hr, Nat.add_mul]; omega)
    rw [List.drop_succ_cons, flatten_drop (fun r hr => h r (by simp [hr])) k, List.flatten_cons, List.drop_append, h1, List.nil_append, hr]
    congr 1
    rw [Nat.add_mul]; omega

theorem flatten_take : ∀ {rows : List (List Value)} {s : Nat}, (∀ r ∈ rows, r.length = s) → ∀ k : Nat, (rows.take k).flatten = rows.flatten.take (k * s)
  | [], s, _, k => by simp
  | r :: rows, s, h, 0 => by simp
  | r :: rows, s, h, k + 1 => by
    have hr := h r (by simp)
    have h1 : r.take ((k + 1) * s) = r := List.take_of_length_le (by rw [hr, Nat.add_mul]; omega)
    rw [List.take_succ_cons, List.flatten_cons, flatten_take (fun r hr => h r (by simp [hr])) k, List.flatten_cons, List.take_append, h1, hr]
    congr 2
    rw [Nat.add_mul]; omega

/-- A part of a list. -/
theorem Ls.sub (h : Ls R s H p n c xs) {l k : Nat} (h1 : l ≤ k) (h2 : k ≤ n) {e : Nat} (he : p = none → e = 0) :
    Ls R s H (p.map fun a => ⟨a.block, a.off + l * s, none⟩) (k - l) e ((xs.drop l).take (k - l)) := by
  obtain ⟨rows, k1, k2, k3, k4, k5⟩ := h.is
  refine ⟨fun hp => ?_, by have := h.bound; omega, (rows.drop l).take (k - l), by simp; omega, by simp; omega, fun r hr => k3 r (List.mem_of_mem_drop (List.mem_of_mem_take hr)), ?_, ?_⟩
  · have hp : p = none := by cases p <;> simp_all
    have := h.nil hp
    exact ⟨by omega, he hp⟩
  · intro i r x hr hx
    rw [List.getElem?_take] at hr hx
    split at hr
    · rename_i hi
      rw [if_pos hi] at hx
      rw [List.getElem?_drop] at hr hx
      exact k4 _ _ _ hr hx
    · cases hr
  · intro a ha
    cases p with
    | none => simp at ha
    | some b =>
      simp at ha
      subst ha
      obtain ⟨q1, q2⟩ := k5 b rfl
      refine ⟨rfl, q2.lt, ?_⟩
      obtain ⟨cs, ro, g1, g2, g3⟩ := q2.is
      have hl := flatten_length k3
      rw [hl, k1] at g2
      have hsub : (k - l) * s + l * s ≤ n * s := by rw [← Nat.add_mul]; exact Nat.mul_le_mul_right _ (by omega)
      refine ⟨cs, ro, g1, ?_, ?_⟩
      · rw [flatten_take (fun r hr => k3 r (List.mem_of_mem_drop hr)), flatten_drop k3, List.length_take, List.length_drop, hl, k1]
        have : min ((k - l) * s) (n * s - l * s) ≤ (k - l) * s := Nat.min_le_left _ _
        simp only
        omega
      · rw [flatten_take (fun r hr => k3 r (List.mem_of_mem_drop hr)), flatten_drop k3]
        rw [← g3]
        rw [hl, k1]
        apply List.ext_getElem?
        intro j
        simp only [List.getElem?_take, List.getElem?_drop, List.length_take, List.length_drop]
        split
        · rename_i hj
          rw [if_pos (by omega), if_pos (by omega)]
          congr 1
          omega
        · rename_i hj
          split
          · rename_i hj2
            rw [if_neg]
            omega
          · rfl

theorem Ls.slice (h : Ls R s H p n c xs) {lo hi : Int} (h0 : 0 ≤ lo) (h1 : lo ≤ hi) (h2 : hi ≤ n) :
    ∃ q e, sliceV H s (.slice p n c) (some (.int .i64 lo)) (some (.int .i64 hi)) none = some (.slice q (hi.toNat - lo.toNat) e) ∧ Ls R s H q (hi.toNat - lo.toNat) e ((xs.drop lo.toNat).take (hi.toNat - lo.toNat)) ∧
      (∀ a, q = some a → ∃ b, p = some b ∧ a.block = b.block) := by
  cases p with
  | none =>
    obtain ⟨rfl, rfl⟩ := h.nil rfl
    have e1 : lo = 0 := by omega
    have e2 : hi = 0 := by omega
    subst e1; subst e2
    have := h.sub (l := 0) (k := 0) (by omega) (by omega) (e := 0) (fun _ => rfl)
    exact ⟨none, 0, rfl, this, fun a ha => by cases ha⟩
  | some a =>
    obtain ⟨rows, k1, k2, k3, k4, k5⟩ := h.is
    obtain ⟨q1, q2⟩ := k5 a rfl
    obtain ⟨b, i, sp⟩ := a
    simp only at q1; subst q1
    obtain ⟨cs, ro, g1, g2, g3⟩ := q2.is
    simp only at g1
    have hs := fun e => h.sub (l := lo.toNat) (k := hi.toNat) (by omega) (by omega) (e := e) (fun hh => by cases hh)
    refine ⟨some ⟨b, i + lo.toNat * s, none⟩, (if c = n ∧ hi.toNat = n then hi.toNat - lo.toNat else hi.toNat - lo.toNat + 1), ?_, hs _, fun a ha => by cases ha; exact ⟨_, rfl, rfl⟩⟩
    simp only [sliceV, g1, if_true]
    rw [if_pos h0, if_pos (by omega)]
    simp only
    rw [if_pos (by omega)]

theorem Ls.sliceFrom (h : Ls R s H p n c xs) {lo : Int} (h0 : 0 ≤ lo) (h1 : lo ≤ n) :
    ∃ q e, sliceV H s (.slice p n c) (some (.int .i64 lo)) none none = some (.slice q (n - lo.toNat) e) ∧ Ls R s H q (n - lo.toNat) e (xs.drop lo.toNat) ∧
      (∀ a, q = some a → ∃ b, p = some b ∧ a.block = b.block) := by
  have hl := h.len
  have ht : (xs.drop lo.toNat).take (n - lo.toNat) = xs.drop lo.toNat := List.take_of_length_le (by simp; omega)
  cases p with
  | none =>
    obtain ⟨rfl, rfl⟩ := h.nil rfl
    have e1 : lo = 0 := by omega
    subst e1
    have := h.sub (l := 0) (k := 0) (by omega) (by omega) (e := 0) (fun _ => rfl)
    refine ⟨none, 0, rfl, ?_, fun a ha => by cases ha⟩
    rw [← ht]; exact this
  | some a =>
    obtain ⟨rows, k1, k2, k3, k4, k5⟩ := h.is
    obtain ⟨q1, q2⟩ := k5 a rfl
    obtain ⟨b, i, sp⟩ := a
    simp only at q1; subst q1
    obtain ⟨cs, ro, g1, g2, g3⟩ := q2.is
    simp only at g1
    have hs := fun e => h.sub (l := lo.toNat) (k := n) (by omega) (by omega) (e := e) (fun hh => by cases hh)
    refine ⟨some ⟨b, i + lo.toNat * s, none⟩, (if c = n ∧ n = n then n - lo.toNat else n - lo.toNat + 1), ?_, by rw [← ht]; exact hs _, fun a ha => by cases ha; exact ⟨_, rfl, rfl⟩⟩
    simp only [sliceV, g1, if_true]
    rw [if_pos h0]
    simp only
    rw [if_pos (by omega)]

end Go.Lg
