/- Cores that are written; a step by the reference. No condition. -/
import Derived.Test.YtaehendkbicepaaC7
set_option linter.unusedVariables false
namespace Go.Lg
open Go

/-- A core in blocks of its own. -/
structure CB (H : LH) (cb rb rc db dc hb hc : Nat) (C : CoreD) : Prop where
  core : Blk H cb 5 [.slice (some ⟨rb, 0, none⟩) 8 rc, .slice (some ⟨db, 0, none⟩) 6 dc, .slice (some ⟨hb, 0, none⟩) 4 hc, .int .i64 C.pc, .bool C.ended]
  regs : Blk H rb 1 (C.regs.map (Value.int .i64))
  data : Blk H db 1 (C.data.map (Value.int .i64))
  held : Blk H hb 1 (C.held.map Value.bool)
  rlen : C.regs.length = 8
  dlen : C.data.length = 6
  hlen : C.held.length = 4
  cr : cb ≠ rb
  cd : cb ≠ db
  ch : cb ≠ hb
  rd : rb ≠ db
  rh : rb ≠ hb
  dh : db ≠ hb

variable {H H' H0 : LH} {cb rb rc db dc hb hc : Nat} {C : CoreD}

theorem CB.kp {S : List Nat} (h : CB H cb rb rc db dc hb hc C) (hk : Kp S H H') (h1 : cb ∉ S) (h2 : rb ∉ S) (h3 : db ∉ S) (h4 : hb ∉ S) : CB H' cb rb rc db dc hb hc C :=
  { h with core := h.core.kp hk h1, regs := h.regs.kp hk h2, data := h.data.kp hk h3, held := h.held.kp hk h4 }
theorem CB.kp0 (h : CB H cb rb rc db dc hb hc C) (hk : Kp [] H H') : CB H' cb rb rc db dc hb hc C := h.kp hk (by simp) (by simp) (by simp) (by simp)

theorem Blk.putNe {b s c : Nat} {cs : List Value} {x : Option LObj} (h : Blk H b s cs) (hne : b ≠ c) : Blk (H.put c x) b s cs := ⟨h.lt, by rw [LH.put_ne _ _ hne]; exact h.is⟩

theorem setMany_one (l : List Value) (i : Nat) (v : Value) : setMany l i [v] = l.set i v := rfl

theorem map_set_int (l : List Int) (i : Nat) (x : Int) : (l.map (Value.int .i64)).set i (.int .i64 x) = (l.set i x).map (Value.int .i64) := (List.map_set).symm
theorem map_set_bool (l : List Bool) (i : Nat) (x : Bool) : (l.map Value.bool).set i (.bool x) = (l.set i x).map Value.bool := (List.map_set).symm

theorem CB.setReg (h : CB H cb rb rc db dc hb hc C) (i : Nat) (x : Int) :
    CB (H.put rb (some (.cells ((C.regs.map (Value.int .i64)).set i (.int .i64 x)) 1 false))) cb rb rc db dc hb hc { C with regs := C.regs.set i x } := by
  refine ⟨h.core.putNe h.cr, ?_, h.data.putNe h.rd.symm, h.held.putNe h.rh.symm, by simp [h.rlen], h.dlen, h.hlen, h.cr, h.cd, h.ch, h.rd, h.rh, h.dh⟩
  rw [map_set_int]; exact h.regs.put
theorem CB.setData (h : CB H cb rb rc db dc hb hc C) (i : Nat) (x : Int) :
    CB (H.put db (some (.cells ((C.data.map (Value.int .i64)).set i (.int .i64 x)) 1 false))) cb rb rc db dc hb hc { C with data := C.data.set i x } := by
  refine ⟨h.core.putNe h.cd, h.regs.putNe h.rd, ?_, h.held.putNe h.dh.symm, h.rlen, by simp [h.dlen], h.hlen, h.cr, h.cd, h.ch, h.rd, h.rh, h.dh⟩
  rw [map_set_int]; exact h.data.put
theorem CB.setHeld (h : CB H cb rb rc db dc hb hc C) (i : Nat) (x : Bool) :
    CB (H.put hb (some (.cells ((C.held.map Value.bool).set i (.bool x)) 1 false))) cb rb rc db dc hb hc { C with held := C.held.set i x } := by
  refine ⟨h.core.putNe h.ch, h.regs.putNe h.rh, h.data.putNe h.dh, ?_, h.rlen, h.dlen, by simp [h.hlen], h.cr, h.cd, h.ch, h.rd, h.rh, h.dh⟩
  rw [map_set_bool]; exact h.held.put
theorem CB.setPc (h : CB H cb rb rc db dc hb hc C) (x : Int) :
    CB (H.put cb (some (.cells (setMany [.slice (some ⟨rb, 0, none⟩) 8 rc, .slice (some ⟨db, 0, none⟩) 6 dc, .slice (some ⟨hb, 0, none⟩) 4 hc, .int .i64 C.pc, .bool C.ended] (0 + 3) [.int .i64 x]) 5 false))) cb rb rc db dc hb hc { C with pc := x } :=
  ⟨h.core.put, h.regs.putNe h.cr.symm, h.data.putNe h.cd.symm, h.held.putNe h.ch.symm, h.rlen, h.dlen, h.hlen, h.cr, h.cd, h.ch, h.rd, h.rh, h.dh⟩
theorem CB.setEnded (h : CB H cb rb rc db dc hb hc C) (x : Bool) :
    CB (H.put cb (some (.cells (setMany [.slice (some ⟨rb, 0, none⟩) 8 rc, .slice (some ⟨db, 0, none⟩) 6 dc, .slice (some ⟨hb, 0, none⟩) 4 hc, .int .i64 C.pc, .bool C.ended] (0 + 4) [.bool x]) 5 false))) cb rb rc db dc hb hc { C with ended := x } :=
  ⟨h.core.put, h.regs.putNe h.cr.symm, h.data.putNe h.cd.symm, h.held.putNe h.ch.symm, h.rlen, h.dlen, h.hlen, h.cr, h.cd, h.ch, h.rd, h.rh, h.dh⟩

def regOf (C : CoreD) (i : Int) : Int := C.regs.getD i.toNat 0

theorem map_getD_at {H : LH} {b : Nat} {l : List Int} (h : Blk H b 1 (l.map (Value.int .i64))) {i : Int} (h0 : 0 ≤ i) (h1 : i.toNat < l.length) : hAt H b (0 + i.toNat * 1) (.int .i64 (l.getD i.toNat 0)) := by
  have : (l.map (Value.int .i64))[0 + i.toNat * 1]? = some (.int .i64 (l.getD i.toNat 0)) := by
    rw [Nat.zero_add, Nat.mul_one, List.getElem?_map, List.getElem?_eq_getElem h1, List.getD_eq_getElem?_getD, List.getElem?_eq_getElem h1]; rfl
  exact h.at this
theorem map_getD_atB {H : LH} {b : Nat} {l : List Bool} (h : Blk H b 1 (l.map Value.bool)) {i : Int} (h0 : 0 ≤ i) (h1 : i.toNat < l.length) : hAt H b (0 + i.toNat * 1) (.bool (l.getD i.toNat false)) := by
  have : (l.map Value.bool)[0 + i.toNat * 1]? = some (.bool (l.getD i.toNat false)) := by
    rw [Nat.zero_add, Nat.mul_one, List.getElem?_map, List.getElem?_eq_getElem h1, List.getD_eq_getElem?_getD, List.getElem?_eq_getElem h1]; rfl
  exact h.at this

theorem CB.regAt (h : CB H cb rb rc db dc hb hc C) {i : Int} (h0 : 0 ≤ i) (h1 : i < 8) : hAt H rb (0 + i.toNat * 1) (.int .i64 (regOf C i)) := map_getD_at h.regs h0 (by rw [h.rlen]; omega)
theorem CB.dataAt (h : CB H cb rb rc db dc hb hc C) {i : Int} (h0 : 0 ≤ i) (h1 : i < 6) : hAt H db (0 + i.toNat * 1) (.int .i64 (C.data.getD i.toNat 0)) := map_getD_at h.data h0 (by rw [h.dlen]; omega)
theorem CB.heldAt (h : CB H cb rb rc db dc hb hc C) {i : Int} (h0 : 0 ≤ i) (h1 : i < 4) : hAt H hb (0 + i.toNat * 1) (.bool (C.held.getD i.toNat false)) := map_getD_atB h.held h0 (by rw [h.hlen]; omega)

/-! ### what a step does -/
def setR (l : List Int) (a v : Int) : List Int := if a = 0 then l else l.set a.toNat v

theorem set_zero {l : List Int} (h : l[0]? = some 0) (a v : Int) (ha : 0 ≤ a) : (l.set a.toNat v).set 0 0 = setR l a v := by
  unfold setR
  split
  · rename_i e
    subst e
    show (l.set 0 v).set 0 0 = l
    rw [List.set_set]
    apply List.ext_getElem?
    intro j
    rw [List.getElem?_set]
    split
    · rename_i e; subst e
      have := getE h
      rw [if_pos this]; exact h.symm
    · rfl
  · rename_i hne
    have hp : a.toNat ≠ 0 := by omega
    apply List.ext_getElem?
    intro j
    rw [List.getElem?_set]
    split
    · rename_i e; subst e
      have := getE h
      rw [if_pos (by simpa using this), List.getElem?_set, if_neg hp]; exact h.symm
    · rfl

def effect (x : InstrD) (addr : Int) (C : CoreD) : CoreD :=
  if x.ins = 1 then { C with regs := setR C.regs x.a x.imm }
  else if x.ins = 2 then { C with regs := setR C.regs x.a (regOf C x.b) }
  else if x.ins = 3 then { C with regs := setR C.regs x.a (doV x.op (regOf C x.b) (regOf C x.c)) }
  else if x.ins = 4 then { C with regs := setR C.regs x.a (C.data.getD addr.toNat 0) }
  else if x.ins = 5 then { C with data := C.data.set addr.toNat (regOf C x.a) }
  else if x.ins = 8 then { C with held := C.held.set x.imm.toNat true }
  else if x.ins = 9 then { C with held := C.held.set x.imm.toNat false }
  else if x.ins = 10 then { C with ended := true }
  else C

def jumpsF (x : InstrD) (C : CoreD) : Bool := decide (x.ins = 6) || (decide (x.ins = 7) && decide (regOf C x.a = 0))
def nextF (x : InstrD) (C : CoreD) : Int := if x.ins = 10 then C.pc else if jumpsF x C then x.imm else C.pc + 1
def addrF (x : InstrD) (C : CoreD) : Int := if x.ins = 4 ∨ x.ins = 5 then regOf C x.b + x.imm else -1

/-- An instruction, in a valid core of an image with `n` instructions and six words of data: the event, the error, the core behind it. -/
def stepF (x : InstrD) (n : Nat) (C : CoreD) : (Int × Int × Bool) × Int × CoreD :=
  if (x.ins = 8 ∨ x.ins = 9) ∧ C.held.getD x.imm.toNat false = decide (x.ins = 8) then ((0, 0, false), 14, C)
  else if (x.ins = 4 ∨ x.ins = 5) ∧ (addrF x C < 0 ∨ 6 ≤ addrF x C) then ((0, 0, false), 12, C)
  else if (n : Int) ≤ nextF x C then ((0, 0, false), 12, C)
  else ((C.pc, addrF x C, jumpsF x C), 0, { effect x (addrF x C) C with pc := nextF x C })

theorem regOf_W {k : Nat} {dn : Int} (h : CoreOk k dn C) {i : Int} (h0 : 0 ≤ i) (h1 : i < 8) : -2147483648 ≤ regOf C i ∧ regOf C i ≤ 2147483647 := by
  have hl := h.rlen
  have : C.regs.getD i.toNat 0 ∈ C.regs := by
    rw [List.getD_eq_getElem?_getD, List.getElem?_eq_getElem (by omega)]
    exact List.getElem_mem _
  have := h.regs _ this
  simp only [isW, decide_eq_true_eq] at this
  exact this

/-- What a step leaves. -/
structure Stepped (H0 H' : LH) (cb rb rc db dc hb hc : Nat) (v : Value) (S : (Int × Int × Bool) × Int × CoreD) : Prop where
  val : v = .tuple #[.agg #[.int .i64 S.1.1, .int .i64 S.1.2.1, .bool S.1.2.2], .int .i64 S.2.1]
  core : CB H' cb rb rc db dc hb hc S.2.2
  kp : Kp [] H0 H'

theorem set_len (l : List Int) (a v : Int) : (setR l a v).length = l.length := by unfold setR; split <;> simp

set_option maxHeartbeats 1000000 in
theorem c_ref21_step {p : Option Addr} {n c : Nat} {code : List InstrD} {x : InstrD} (hcode : Ls RInstr 6 H0 p n c code) (hk0 : Kp [] H0 H) (hC : CB H cb rb rc db dc hb hc C) (ok : CoreOk n 6 C) (hx : code[C.pc.toNat]? = some x) (hi : IOk x)
    (hlt : H0.next ≤ cb ∧ H0.next ≤ rb ∧ H0.next ≤ db ∧ H0.next ≤ hb) (q2 : Option Addr) (m2 d2 : Nat) (q3 : Option Addr) (m3 d3 : Nat) :
    Call prog f_ref21_step [.agg #[.slice p n c, .int .i64 6, .slice q2 m2 d2, .slice q3 m3 d3], .pointer (some ⟨cb, 0, none⟩)] H (fun v H' => Stepped H0 H' cb rb rc db dc hb hc v (stepF x n C)) := by
  refine F_ref21_step_call _ _ _ _ _ _ _ _ _ _ _ ?_
  unfold F_ref21_step
  have lc := hcode.len
  have bc := hcode.bound
  have hpc0 := ok.pc0
  have hpc1 := ok.pc1
  have hr0 := ok.r0
  have hia := hi.a
  have hib := hi.b
  have hic := hi.c
  rintro _ rfl
  have hk1 := hk0.keep 10
  have hC1 : CB (H.keep 10) cb rb rc db dc hb hc C := hC.kp0 (Kp.refl.keep _)
  obtain ⟨b, k, r, t, hp, ht, rfl, -, hat⟩ := (hcode.kp0 hk1).at (x := C.pc) hpc0 hpc1
  rw [hx] at ht; cases ht
  refine ⟨cb, 0, rfl, _, hC1.core.at rfl, b, k, hp, hpc0, hpc1, _, hat 0 _ rfl, _, hat 1 _ rfl, _, hat 2 _ rfl, _, hat 3 _ rfl, _, hat 4 _ rfl, _, hat 5 _ rfl, cb, 0, rfl, _, hC1.core.at rfl, cb, 0, rfl, _, hC1.core.at rfl, ?_⟩
  rw [wrap_id (x := C.pc + 1) (by omega)]
  obtain ⟨hcb, hrb, hdb, hhb⟩ := hlt
  intro K19 hK19
  -- behind the first switch
  have fin : ∀ (H27 : LH), Kp [] H0 H27 → CB H27 cb rb rc db dc hb hc C → ¬ ((x.ins = 8 ∨ x.ins = 9) ∧ C.held.getD x.imm.toNat false = decide (x.ins = 8)) → ¬ ((x.ins = 4 ∨ x.ins = 5) ∧ (addrF x C < 0 ∨ 6 ≤ addrF x C)) →
      K19 0 0 false C.pc (addrF x C) (jumpsF x C) (nextF x C) H27 := by
    intro H27 hk27 hC27 s1 s2
    have hS : stepF x n C = if (n : Int) ≤ nextF x C then ((0, 0, false), 12, C) else ((C.pc, addrF x C, jumpsF x C), 0, { effect x (addrF x C) C with pc := nextF x C }) := by
      unfold stepF; rw [if_neg s1, if_neg s2]
    refine hK19 _ _ _ _ _ _ _ _ ⟨hcode.nil, fun g => ?_, fun g => ?_⟩
    · have g : (n : Int) ≤ nextF x C := by simpa using g
      rw [if_pos g] at hS
      rw [hS]; exact ⟨rfl, hC27, hk27⟩
    have g : ¬ (n : Int) ≤ nextF x C := by simpa using g
    rw [if_neg g] at hS
    refine ⟨cb, 0, rfl, _, _, hC27.core.is, by simp, ?_⟩
    rintro H32 hH32
    have hC32 : CB H32 cb rb rc db dc hb hc { C with pc := nextF x C } := by rw [hH32]; exact hC27.setPc _
    have hk32 : Kp [] H0 H32 := by rw [hH32]; exact hk27.put (.inr hcb) _
    clear hH32
    intro K33 hK33
    -- the end
    have done : ∀ (H34 : LH) (D : CoreD), Kp [] H0 H34 → CB H34 cb rb rc db dc hb hc D → { D with regs := D.regs.set 0 0 } = { effect x (addrF x C) C with pc := nextF x C } → K33 H34 := by
      intro H34 D hk34 hC34 hD
      refine hK33 _ ⟨cb, 0, rfl, _, _, _, hC34.core.at rfl, rb, 0, rfl, by omega, by omega, _, _, hC34.regs.is, by simp [hC34.rlen], ?_⟩
      rintro _ rfl
      have := hC34.setReg 0 0
      rw [hD] at this
      rw [hS]
      exact ⟨rfl, this, hk34.put (.inr hrb) _⟩
    have reg : ∀ (H46 : LH) (v : Int), Kp [] H0 H46 → CB H46 cb rb rc db dc hb hc { C with pc := nextF x C } → { C with regs := setR C.regs x.a v } = effect x (addrF x C) C →
        K33 (H46.put rb (some (.cells ((C.regs.map (Value.int .i64)).set (0 + x.a.toNat * 1) (.int .i64 v)) 1 false))) := by
      intro H46 v hk46 hC46 he
      refine done _ _ (hk46.put (.inr hrb) _) (hC46.setReg _ v) ?_
      rw [← he, Nat.zero_add, Nat.mul_one]
      simp only [set_zero hr0 x.a v hia.1]
    have same : C.regs.set 0 0 = C.regs := by
      have := set_zero hr0 0 0 (by omega)
      simp only [setR, if_true] at this
      rw [show (0 : Int).toNat = 0 from rfl, List.set_set] at this; exact this
    refine ⟨fun g1 => ?_, fun n1 => ⟨fun g2 => ?_, fun n2 => ⟨fun g3 => ?_, fun n3 => ⟨fun g4 => ?_, fun n4 => ⟨fun g5 => ?_, fun n5 => ⟨fun g8 => ?_, fun n8 => ⟨fun g9 => ?_, fun n9 => ⟨fun g10 => ?_, fun n10 => ?_⟩⟩⟩⟩⟩⟩⟩⟩
    · have g1 : x.ins = 1 := by simpa using g1
      rintro _ rfl
      have hC46 := hC32.kp0 (H' := H32.keep 10) (Kp.refl.keep _)
      refine ⟨cb, 0, rfl, _, _, _, hC46.core.at rfl, rb, 0, rfl, hia.1, by omega, _, _, hC46.regs.is, by simp [hC46.rlen]; have := hC46.rlen; simp at this; omega, ?_⟩
      rintro _ rfl
      exact reg _ x.imm (hk32.keep _) hC46 (by simp [effect, g1])
    · have g2 : x.ins = 2 := by simpa using g2
      rintro _ rfl
      have hC46 := hC32.kp0 (H' := H32.keep 16) (Kp.refl.keep _)
      refine ⟨cb, 0, rfl, _, _, _, hC46.core.at rfl, cb, 0, rfl, _, _, _, hC46.core.at rfl, rb, 0, rfl, hib.1, by omega, _, hC46.regAt hib.1 hib.2, rb, 0, rfl, hia.1, by omega, _, _, hC46.regs.is, by simp; have := hC46.rlen; simp at this; omega, ?_⟩
      rintro _ rfl
      exact reg _ _ (hk32.keep _) hC46 (by simp [effect, g2]; rfl)
    · have g3 : x.ins = 3 := by simpa using g3
      have hop := hi.op g3
      rintro _ rfl
      have hC46 := hC32.kp0 (H' := H32.keep 30) (Kp.refl.keep _)
      refine ⟨cb, 0, rfl, _, _, _, hC46.core.at rfl, cb, 0, rfl, _, _, _, hC46.core.at rfl, rb, 0, rfl, hib.1, by omega, _, hC46.regAt hib.1 hib.2, cb, 0, rfl, _, _, _, hC46.core.at rfl, rb, 0, rfl, hic.1, by omega, _, hC46.regAt hic.1 hic.2, ?_⟩
      refine XCall.by (c_ref01_Do hop.1 hop.2) ?_
      rintro _ H99 ⟨rfl, hk99⟩
      have hC99 := hC46.kp0 hk99
      refine ⟨_, _, rfl, ⟨_, _, _, hC99.core.at rfl, rfl⟩, rfl, rb, 0, rfl, hia.1, by omega, _, _, hC99.regs.is, by simp; have := hC99.rlen; simp at this; omega, ?_⟩
      rintro _ rfl
      exact reg _ _ ((hk32.keep _).trans hk99) hC99 (by simp [effect, g3]; rfl)
    · have g4 : x.ins = 4 := by simpa using g4
      have ha : 0 ≤ addrF x C ∧ addrF x C < 6 := by
        have : ¬ (addrF x C < 0 ∨ 6 ≤ addrF x C) := fun hh => s2 ⟨.inl g4, hh⟩
        omega
      rintro _ rfl
      have hC46 := hC32.kp0 (H' := H32.keep 16) (Kp.refl.keep _)
      refine ⟨cb, 0, rfl, _, _, _, hC46.core.at rfl, cb, 0, rfl, _, _, _, hC46.core.at rfl, db, 0, rfl, ha.1, by omega, _, hC46.dataAt ha.1 ha.2, rb, 0, rfl, hia.1, by omega, _, _, hC46.regs.is, by simp; have := hC46.rlen; simp at this; omega, ?_⟩
      rintro _ rfl
      exact reg _ _ (hk32.keep _) hC46 (by simp [effect, g4])
    · have g5 : x.ins = 5 := by simpa using g5
      have ha : 0 ≤ addrF x C ∧ addrF x C < 6 := by
        have : ¬ (addrF x C < 0 ∨ 6 ≤ addrF x C) := fun hh => s2 ⟨.inr g5, hh⟩
        omega
      rintro _ rfl
      have hC46 := hC32.kp0 (H' := H32.keep 16) (Kp.refl.keep _)
      refine ⟨cb, 0, rfl, _, _, _, hC46.core.at rfl, cb, 0, rfl, _, _, _, hC46.core.at rfl, rb, 0, rfl, hia.1, by omega, _, hC46.regAt hia.1 hia.2, db, 0, rfl, ha.1, by omega, _, _, hC46.data.is, by simp; have := hC46.dlen; simp at this; omega, ?_⟩
      rintro _ rfl
      refine done _ _ ((hk32.keep _).put (.inr hdb) _) (hC46.setData _ _) ?_
      simp only [effect, g5, same, Nat.zero_add, Nat.mul_one]
      rfl
    · have g8 : x.ins = 8 := by simpa using g8
      have hm := hi.imm8 (.inl g8)
      rintro _ rfl
      have hC46 := hC32.kp0 (H' := H32.keep 8) (Kp.refl.keep _)
      refine ⟨cb, 0, rfl, _, _, _, hC46.core.at rfl, hb, 0, rfl, hm.1, by omega, _, _, hC46.held.is, by simp; have := hC46.hlen; simp at this; omega, ?_⟩
      rintro _ rfl
      refine done _ _ ((hk32.keep _).put (.inr hhb) _) (hC46.setHeld _ _) ?_
      simp only [effect, g8, same, Nat.zero_add, Nat.mul_one]
      rfl
    · have g9 : x.ins = 9 := by simpa using g9
      have hm := hi.imm8 (.inr g9)
      rintro _ rfl
      have hC46 := hC32.kp0 (H' := H32.keep 8) (Kp.refl.keep _)
      refine ⟨cb, 0, rfl, _, _, _, hC46.core.at rfl, hb, 0, rfl, hm.1, by omega, _, _, hC46.held.is, by simp; have := hC46.hlen; simp at this; omega, ?_⟩
      rintro _ rfl
      refine done _ _ ((hk32.keep _).put (.inr hhb) _) (hC46.setHeld _ _) ?_
      simp only [effect, g9, same, Nat.zero_add, Nat.mul_one]
      rfl
    · have g10 : x.ins = 10 := by simpa using g10
      refine ⟨cb, 0, rfl, _, _, hC32.core.is, by simp, ?_⟩
      rintro _ rfl
      refine done _ _ (hk32.put (.inr hcb) _) (hC32.setEnded true) ?_
      simp only [effect, g10, same]
      rfl
    · have n1 : x.ins ≠ 1 := by simpa using n1
      have n2 : x.ins ≠ 2 := by simpa using n2
      have n3 : x.ins ≠ 3 := by simpa using n3
      have n4 : x.ins ≠ 4 := by simpa using n4
      have n5 : x.ins ≠ 5 := by simpa using n5
      have n8 : x.ins ≠ 8 := by simpa using n8
      have n9 : x.ins ≠ 9 := by simpa using n9
      have n10 : x.ins ≠ 10 := by simpa using n10
      refine done _ _ hk32 hC32 ?_
      simp only [effect, n1, n2, n3, n4, n5, n8, n9, n10, if_false, same]
  -- the first switch
  have W := fun {i : Int} (h0 : 0 ≤ i) (h1 : i < 8) => regOf_W ok h0 h1
  intro K176 hK176
  have key : ∀ t : Bool, (t = true ↔ x.ins = 8 ∨ x.ins = 9) → K176 t (H.keep 10) := by
    intro t ht
    refine hK176 _ _ ⟨fun g => ?_, fun g => ?_⟩
    · have g := ht.1 g
      have hm := hi.imm8 g
      rintro _ rfl
      have hC2 := hC1.kp0 (H' := (H.keep 10).keep 12) (Kp.refl.keep _)
      have hk2 := hk1.keep 12
      refine ⟨cb, 0, rfl, _, _, _, hC2.core.at rfl, hb, 0, rfl, hm.1, by omega, _, hC2.heldAt hm.1 hm.2, fun g2 => ?_, fun g2 => ?_⟩
      · have g2 : ¬ C.held.getD x.imm.toNat false = decide (x.ins = 9) := by simpa using g2
        have hh : C.held.getD x.imm.toNat false = decide (x.ins = 8) := by
          rcases g with g | g
          · rw [g] at g2 ⊢
            cases hh : C.held.getD x.imm.toNat false <;> rw [hh] at g2 <;> simp at g2 ⊢
          · rw [g] at g2 ⊢
            cases hh : C.held.getD x.imm.toNat false <;> rw [hh] at g2 <;> simp at g2 ⊢
        have hS : stepF x n C = ((0, 0, false), 14, C) := by
          unfold stepF; rw [if_pos ⟨g, hh⟩]
        rw [hS]; exact ⟨rfl, hC2, hk2⟩
      · have g2 : C.held.getD x.imm.toNat false = decide (x.ins = 9) := by simpa using g2
        have e1 : addrF x C = -1 := by unfold addrF; rw [if_neg (by omega)]
        have e2 : jumpsF x C = false := by unfold jumpsF; simp; omega
        have e3 : nextF x C = C.pc + 1 := by unfold nextF; rw [if_neg (by omega), e2]; rfl
        have := fin _ hk2 hC2 (fun hh => by
          have := hh.2; rw [g2] at this
          rcases g with g | g <;> rw [g] at this <;> simp at this) (fun hh => by omega)
        rw [e1, e2, e3] at this; exact this
    · have s1 : ¬ (x.ins = 8 ∨ x.ins = 9) := fun hh => by have := ht.2 hh; rw [g] at this; cases this
      have s1' : ¬ ((x.ins = 8 ∨ x.ins = 9) ∧ C.held.getD x.imm.toNat false = decide (x.ins = 8)) := fun hh => s1 hh.1
      intro K188 hK188
      have key2 : ∀ u : Bool, (u = true ↔ x.ins = 4 ∨ x.ins = 5) → K188 u (H.keep 10) := by
        intro u hu
        refine hK188 _ _ ⟨fun g => ?_, fun g => ?_⟩
        · have g := hu.1 g
          have hm := hi.imm4 (by omega)
          have hw := W hib.1 hib.2
          rintro _ rfl
          have hC2 := hC1.kp0 (H' := (H.keep 10).keep 13) (Kp.refl.keep _)
          have hk2 := hk1.keep 13
          refine ⟨cb, 0, rfl, _, _, _, hC2.core.at rfl, rb, 0, rfl, hib.1, by omega, _, hC2.regAt hib.1 hib.2, ?_⟩
          rw [wrap_id (x := regOf C x.b + x.imm) (by omega)]
          have e1 : addrF x C = regOf C x.b + x.imm := by unfold addrF; rw [if_pos g]
          have e2 : jumpsF x C = false := by unfold jumpsF; simp; omega
          have e3 : nextF x C = C.pc + 1 := by unfold nextF; rw [if_neg (by omega), e2]; rfl
          have bad : (addrF x C < 0 ∨ 6 ≤ addrF x C) → stepF x n C = ((0, 0, false), 12, C) := fun hh => by
            unfold stepF; rw [if_neg s1', if_pos ⟨g, hh⟩]
          refine ⟨fun g2 => ?_, fun g2 => ⟨fun g3 => ?_, fun g3 => ?_⟩⟩
          · have g2 : regOf C x.b + x.imm < 0 := by simpa using g2
            rw [bad (by omega)]; exact ⟨rfl, hC2, hk2⟩
          · have g3 : 6 ≤ regOf C x.b + x.imm := by simpa using g3
            rw [bad (by omega)]; exact ⟨rfl, hC2, hk2⟩
          · have g2 : ¬ regOf C x.b + x.imm < 0 := by simpa using g2
            have g3 : ¬ 6 ≤ regOf C x.b + x.imm := by simpa using g3
            have := fin _ hk2 hC2 s1' (fun hh => by omega)
            rw [e1, e2, e3] at this; exact this
        · have s2 : ¬ (x.ins = 4 ∨ x.ins = 5) := fun hh => by have := hu.2 hh; rw [g] at this; cases this
          have s2' : ¬ ((x.ins = 4 ∨ x.ins = 5) ∧ (addrF x C < 0 ∨ 6 ≤ addrF x C)) := fun hh => s2 hh.1
          have e1 : addrF x C = -1 := by unfold addrF; rw [if_neg s2]
          have fin' := fun H27 h1 h2 => fin H27 h1 h2 s1' s2'
          rw [e1] at fin'
          refine ⟨fun g6 => ?_, fun n6 => ⟨fun g7 => ?_, fun n7 => ⟨fun g10 => ?_, fun n10 => ?_⟩⟩⟩
          · have g6 : x.ins = 6 := by simpa using g6
            have e2 : jumpsF x C = true := by unfold jumpsF; simp [g6]
            have e3 : nextF x C = x.imm := by unfold nextF; rw [if_neg (by omega), e2]; rfl
            rintro _ rfl
            have := fin' _ (hk1.keep 5) (hC1.kp0 (Kp.refl.keep _))
            rw [e2, e3] at this
            exact ⟨rfl, this⟩
          · have g7 : x.ins = 7 := by simpa using g7
            rintro _ rfl
            have hC2 := hC1.kp0 (H' := (H.keep 10).keep 9) (Kp.refl.keep _)
            have hk2 := hk1.keep 9
            refine ⟨cb, 0, rfl, _, _, _, hC2.core.at rfl, rb, 0, rfl, hia.1, by omega, _, hC2.regAt hia.1 hia.2, fun gz => ?_, fun gz => ?_⟩
            · have gz : regOf C x.a = 0 := by simpa using gz
              have e2 : jumpsF x C = true := by unfold jumpsF; simp [g7, gz]
              have e3 : nextF x C = x.imm := by unfold nextF; rw [if_neg (by omega), e2]; rfl
              rintro _ rfl
              have := fin' _ (hk2.keep 5) (hC2.kp0 (Kp.refl.keep _))
              rw [e2, e3] at this
              exact ⟨rfl, this⟩
            · have gz : regOf C x.a ≠ 0 := by simpa using gz
              have e2 : jumpsF x C = false := by unfold jumpsF; simp [g7, gz]
              have e3 : nextF x C = C.pc + 1 := by unfold nextF; rw [if_neg (by omega), e2]; rfl
              have := fin' _ hk2 hC2
              rw [e2, e3] at this; exact this
          · have g10 : x.ins = 10 := by simpa using g10
            have e2 : jumpsF x C = false := by unfold jumpsF; simp; omega
            have e3 : nextF x C = C.pc := by unfold nextF; rw [if_pos g10]
            have := fin' _ hk1 hC1
            rw [e2, e3] at this
            exact ⟨cb, 0, rfl, _, hC1.core.at rfl, this⟩
          · have n6 : x.ins ≠ 6 := by simpa using n6
            have n7 : x.ins ≠ 7 := by simpa using n7
            have n10 : x.ins ≠ 10 := by simpa using n10
            have e2 : jumpsF x C = false := by unfold jumpsF; simp; omega
            have e3 : nextF x C = C.pc + 1 := by unfold nextF; rw [if_neg n10, e2]; rfl
            have := fin' _ hk1 hC1
            rw [e2, e3] at this; exact this
      refine ⟨fun h => key2 _ ?_, fun h => key2 _ ?_⟩
      · have : x.ins = 4 := by simpa using h
        simp [this]
      · have : x.ins ≠ 4 := by simpa using h
        simp [this]
  refine ⟨fun h => key _ ?_, fun h => key _ ?_⟩
  · have : x.ins = 8 := by simpa using h
    simp [this]
  · have : x.ins ≠ 8 := by simpa using h
    simp [this]

end Go.Lg
