/- Decks: what the functions that take numbers do. No condition. -/
import Derived.Test.YtaehendkbicepaaB1
import Derived.Test.YtaehendkbicepaaF0
import Derived.Test.YtaehendkbicepaaF1
import Derived.Test.YtaehendkbicepaaF2
import Derived.Test.YtaehendkbicepaaF3
import Derived.Test.YtaehendkbicepaaF4
import Derived.Test.YtaehendkbicepaaF5
set_option linter.unusedVariables false
namespace Go.Lg
open Go

def Ri (r : List Value) (x : Int) : Prop := r = [.int .i64 x]
def Rb (r : List Value) (x : Bool) : Prop := r = [.bool x]
abbrev Ints (H : LH) (p : Option Addr) (n c : Nat) (xs : List Int) : Prop := Ls Ri 1 H p n c xs
abbrev Bools (H : LH) (p : Option Addr) (n c : Nat) (xs : List Bool) : Prop := Ls Rb 1 H p n c xs

theorem tmod_mod {a b : Int} (hb : 0 < b) : Int.tmod (Int.tmod a b + b) b = a % b := by
  have h1 := Int.tmod_lt_of_pos a hb
  have h2 := Int.lt_tmod_of_pos a hb
  rw [Int.tmod_eq_emod_of_nonneg (by omega), Int.add_emod_right]
  have := Int.mul_tdiv_add_tmod a b
  rw [show a.tmod b = a - b * a.tdiv b by omega, Int.sub_mul_emod_self_left]

theorem c_make_Mod {H : LH} {a b : Int} (hb : 0 < b) (hb2 : b ≤ 4611686018427387904) : Call prog f_make_Mod [.int .i64 a, .int .i64 b] H (fun v H' => v = .int .i64 (a % b) ∧ H' = H) := by
  refine F_make_Mod_call _ _ ⟨by omega, by omega, ?_, rfl⟩
  have h1 := Int.tmod_lt_of_pos a hb
  have h2 := Int.lt_tmod_of_pos a hb
  rw [wrap_id (by omega), tmod_mod hb]

/-- A deck: its block, how far it is taken. -/
structure DeckAt (H : LH) (d : Nat) : Prop where
  is : ∃ p n c at_ xs, Blk H d 2 [.slice p n c, .int .i64 at_] ∧ Ints H p n c xs ∧ 0 ≤ at_ ∧ ∀ a, p = some a → a.block < d

theorem DeckAt.kp {S : List Nat} {H H' : LH} {d : Nat} (h : DeckAt H d) (hk : Kp S H H') (hs : ∀ b, b ∈ S → d < b) : DeckAt H' d := by
  obtain ⟨p, n, c, a, xs, h1, h2, h3, h4⟩ := h.is
  exact ⟨p, n, c, a, xs, h1.kp hk (fun hh => by have := hs _ hh; omega), h2.kp hk (fun a ha hh => by have := hs _ hh; have := h4 a ha; omega), h3, h4⟩

theorem DeckAt.kp0 {H H' : LH} {d : Nat} (h : DeckAt H d) (hk : Kp [] H H') : DeckAt H' d := h.kp hk (fun b hb => by cases hb)

theorem c_Deck_Next {H : LH} {d : Nat} {n : Int} (h : DeckAt H d) (hn : n ≤ 4611686018427387904) :
    Call prog f_make_Deck_Next [.pointer (some ⟨d, 0, none⟩), .int .i64 n] H (fun v H' => ∃ x, v = .int .i64 x ∧ 0 ≤ x ∧ (x = 0 ∨ x < n) ∧ DeckAt H' d ∧ Kp [d] H H') := by
  obtain ⟨p, m, c, a, xs, h1, h2, h3, h4⟩ := h.is
  refine F_make_Deck_Next_call _ _ ?_
  unfold F_make_Deck_Next
  rintro _ rfl
  have hk : Kp [d] H (H.keep 14) := Kp.refl.keep _
  have hD : DeckAt (H.keep 14) d := h.kp0 (Kp.refl.keep _)
  refine ⟨d, 0, rfl, a, h1.at rfl, d, 0, rfl, p, m, c, h1.at rfl, h2.nil, fun _ => ⟨0, rfl, by omega, .inl rfl, hD, hk⟩, fun hlt => ⟨fun _ => ⟨0, rfl, by omega, .inl rfl, hD, hk⟩, fun hn1 => ?_⟩⟩
  have hlt : a < m := by simpa using hlt
  have hn1 : 1 < n := by simpa using hn1
  have hb := h2.bound
  refine ⟨d, 0, rfl, a, h1.at rfl, d, 0, rfl, _, _, h1.is, by simp, ?_⟩
  rintro H17 rfl
  rw [wrap_id (by omega)]
  rintro H18 rfl
  have hk1 : Kp [d] H (((H.keep 14).put d (some (.cells (setMany [.slice p m c, .int .i64 a] (0 + 1) [.int .i64 (a + 1)]) 2 false))).keep 14) := ((Kp.refl.keep _).put (.inl (by simp)) _).keep _
  have hb1 : Blk (((H.keep 14).put d (some (.cells (setMany [.slice p m c, .int .i64 a] (0 + 1) [.int .i64 (a + 1)]) 2 false))).keep 14) d 2 [.slice p m c, .int .i64 (a + 1)] := by
    refine Blk.keep ?_ 14
    exact Blk.putAt (H := H.keep 14) (Nat.lt_of_lt_of_le h1.lt (Nat.le_add_right _ _))
  have hi := h2.kp hk1 (fun a ha => by have := h4 a ha; simp; omega)
  obtain ⟨b, i, r, t, rfl, ht, rfl, -, hat⟩ := hi.at h3 hlt
  refine ⟨d, 0, rfl, _, _, _, hb1.at rfl, d, 0, rfl, _, hb1.at rfl, b, i, rfl, ?_⟩
  rw [wrap_id (x := a + 1 - 1) (by omega), show a + 1 - 1 = a by omega]
  refine ⟨h3, hlt, _, hat 0 _ rfl, XCall.by (c_make_Mod (by omega) hn) ?_⟩
  rintro _ H' ⟨rfl, rfl⟩
  exact ⟨_, rfl, _, rfl, Int.emod_nonneg _ (by omega), .inr (Int.emod_lt_of_pos _ (by omega)), ⟨_, _, _, _, _, hb1, hi, by omega, h4⟩, hk1⟩

theorem c_Deck_Op {H : LH} {d : Nat} (h : DeckAt H d) :
    Call prog f_make_Deck_Op [.pointer (some ⟨d, 0, none⟩)] H (fun v H' => ∃ x, v = .int .i64 x ∧ 1 ≤ x ∧ x ≤ 14 ∧ DeckAt H' d ∧ Kp [d] H H') := by
  refine F_make_Deck_Op_call _ ?_
  unfold F_make_Deck_Op
  refine XCall.by (c_Deck_Next h (by omega)) ?_
  rintro _ H' ⟨x, rfl, h0, h1, hD, hk⟩
  exact ⟨_, rfl, _, congrArg _ (wrap_id (by omega)), by omega, by omega, hD, hk⟩

theorem two_pow_le {k : Nat} (h : k ≤ 30) : (2 : Int) ^ k ≤ 2 ^ 30 := by
  have := Nat.pow_le_pow_right (n := 2) (by omega) h
  exact_mod_cast this

theorem c_Deck_Word {H : LH} {d : Nat} (h : DeckAt H d) :
    Call prog f_make_Deck_Word [.pointer (some ⟨d, 0, none⟩)] H (fun v H' => ∃ x, v = .int .i64 x ∧ -2147483648 ≤ x ∧ x ≤ 2147483647 ∧ DeckAt H' d ∧ Kp [d] H H') := by
  refine F_make_Deck_Word_call _ ?_
  unfold F_make_Deck_Word
  refine XCall.by (c_Deck_Next h (by omega)) ?_
  rintro _ H2 ⟨x, rfl, h0, h1, hD, hk⟩
  refine ⟨_, rfl, fun _ => ?_, fun _ => ⟨fun _ => ?_, fun _ => ⟨fun _ => ?_, fun _ => ⟨fun _ => ?_, fun _ => ?_⟩⟩⟩⟩
  · refine XCall.by (c_Deck_Next hD (by omega)) ?_
    rintro _ H3 ⟨y, rfl, k0, k1, kD, kk⟩
    exact ⟨_, rfl, _, congrArg _ (wrap_id (by omega)), by omega, by omega, kD, hk.trans kk⟩
  · refine XCall.by (c_Deck_Next hD (by omega)) ?_
    rintro _ H3 ⟨y, rfl, k0, k1, kD, kk⟩
    exact ⟨_, rfl, _, congrArg _ (wrap_id (by omega)), by omega, by omega, kD, hk.trans kk⟩
  · refine XCall.by (c_Deck_Next hD (by omega)) ?_
    rintro _ H3 ⟨y, rfl, k0, k1, kD, kk⟩
    exact ⟨_, rfl, _, congrArg _ (wrap_id (by omega)), by omega, by omega, kD, hk.trans kk⟩
  · refine XCall.by (c_Deck_Next hD (by omega)) ?_
    rintro _ H3 ⟨y, rfl, k0, k1, kD, kk⟩
    have hw : IntKind.wrap .u64 y = y := by
      simp only [IntKind.wrap, IntKind.signed, IntKind.bits, Bool.false_and]
      split
      · contradiction
      · omega
    have hm : Min.min (Int.toNat y) 64 = y.toNat := by omega
    have hp := two_pow_le (k := y.toNat) (by omega)
    have hp0 : (0 : Int) < 2 ^ y.toNat := Int.pow_pos (by omega)
    refine ⟨_, rfl, ?_⟩
    rw [hw]
    refine ⟨k0, 2 ^ y.toNat, ?_, by omega, by omega, kD, hk.trans kk⟩
    rw [hm, Int.one_mul, wrap_id (by omega)]
  · refine XCall.by (c_Deck_Next hD (by omega)) ?_
    rintro _ H3 ⟨y, rfl, k0, k1, kD, kk⟩
    exact ⟨_, rfl, _, rfl, by omega, by omega, kD, hk.trans kk⟩

theorem c_make_Few {H : LH} {p : Option Addr} {n c : Nat} (h : p = none → n = 0 ∧ c = 0) :
    Call prog f_make_Few [.slice p n c] H (fun v H' => v = .bool (decide (n ≤ 400)) ∧ H' = H) := by
  refine F_make_Few_call _ _ _ ⟨h, ?_, rfl⟩
  congr 1
  simp only [decide_eq_decide]; omega

theorem c_make_New {H : LH} {p : Option Addr} {n c : Nat} {xs : List Int} (h : Ints H p n c xs) (hlt : ∀ a, p = some a → a.block < H.next) :
    Call prog f_make_New [.slice p n c] H (fun v H' => v = .pointer (some ⟨H.next, 0, none⟩) ∧ DeckAt H' H.next ∧ Kp [] H H') := by
  refine F_make_New_call _ _ _ ?_
  rintro _ rfl
  refine ⟨rfl, ⟨p, n, c, 0, xs, Blk.new _ _ _, h.kp0 (Kp.refl.new _), by omega, hlt⟩, Kp.refl.new _⟩

end Go.Lg
