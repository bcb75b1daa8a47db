/- A step by machine.Next. No condition. -/
import Derived.Test.YtaehendkbicepaaC8
set_option linter.unusedVariables false
namespace Go.Lg
open Go
variable {H H' H0 : LH} {cb rb rc db dc hb hc : Nat} {C : CoreD}

/-- What the function literals of machine.Next see. -/
structure NB (H : LH) (pB iB vB wB : Nat) (cb : Nat) (x : InstrD) (pc addr : Int) (j : Bool) : Prop where
  ptr : Blk H pB 1 [.pointer (some ⟨cb, 0, none⟩)]
  ins : Blk H iB 6 [.int .i64 x.ins, .int .i64 x.a, .int .i64 x.b, .int .i64 x.c, .int .i64 x.op, .int .i64 x.imm]
  ev : Blk H vB 3 [.int .i64 pc, .int .i64 addr, .bool j]
  wr : Blk H wB 1 [.func (.func f_machine_Next_1) #[] #[.pointer (some ⟨iB, 0, none⟩), .pointer (some ⟨pB, 0, none⟩)]]

variable {pB iB vB wB : Nat} {x : InstrD} {pc addr : Int} {j : Bool}

theorem NB.kp {S : List Nat} (h : NB H pB iB vB wB cb x pc addr j) (hk : Kp S H H') (h1 : pB ∉ S) (h2 : iB ∉ S) (h3 : vB ∉ S) (h4 : wB ∉ S) : NB H' pB iB vB wB cb x pc addr j :=
  ⟨h.ptr.kp hk h1, h.ins.kp hk h2, h.ev.kp hk h3, h.wr.kp hk h4⟩
theorem NB.kp0 (h : NB H pB iB vB wB cb x pc addr j) (hk : Kp [] H H') : NB H' pB iB vB wB cb x pc addr j := h.kp hk (by simp) (by simp) (by simp) (by simp)
theorem NB.setEv (h : NB H pB iB vB wB cb x pc addr j) (h1 : pB ≠ vB) (h2 : iB ≠ vB) (h3 : wB ≠ vB) (a2 : Int) (j2 : Bool) : NB (H.put vB (some (.cells [.int .i64 pc, .int .i64 a2, .bool j2] 3 false))) pB iB vB wB cb x pc a2 j2 :=
  ⟨h.ptr.putNe h1, h.ins.putNe h2, h.ev.put, h.wr.putNe h3⟩

theorem c_write (hN : NB H pB iB vB wB cb x pc addr j) (hC : CB H cb rb rc db dc hb hc C) (ha0 : 0 ≤ x.a) (ha1 : x.a < 8) (v : Int) :
    Call prog f_machine_Next_1 [.int .i64 v, .pointer (some ⟨iB, 0, none⟩), .pointer (some ⟨pB, 0, none⟩)] H (fun _ H' => CB H' cb rb rc db dc hb hc { C with regs := setR C.regs x.a v } ∧ Kp [rb, db, hb] H H') := by
  refine F_machine_Next_1_call _ _ _ _ _ ?_
  unfold F_machine_Next_1
  refine ⟨_, hN.ins.at rfl, fun h => ?_, fun h => ?_⟩
  · have h : x.a ≠ 0 := by simpa using h
    rintro _ rfl
    have hN := hN.kp0 (H' := H.keep 9) (Kp.refl.keep _)
    have hC := hC.kp0 (H' := H.keep 9) (Kp.refl.keep _)
    refine ⟨_, hN.ptr.at rfl, cb, 0, rfl, _, _, _, hC.core.at rfl, _, hN.ins.at rfl, rb, 0, rfl, ha0, by omega, _, _, hC.regs.is, by simp; have := hC.rlen; omega, ?_⟩
    rintro _ rfl
    refine ⟨?_, (Kp.refl.keep _).put (.inl (by simp)) _⟩
    have := hC.setReg x.a.toNat v
    simp only [setR, if_neg h]
    rw [Nat.zero_add, Nat.mul_one]; exact this
  · have h : x.a = 0 := by simpa using h
    refine ⟨?_, Kp.refl⟩
    simp only [setR, if_pos h]; exact hC

/-- A function value that carries out what is left. -/
structure Done (H : LH) (cb rb rc db dc hb hc : Nat) (D : CoreD) (f : Value) : Prop where
  is : ∃ (g : FuncId) (l1 l2 : List Value), f = .func (.func g) l1.toArray l2.toArray ∧ okFn prog g = true ∧
    ∀ H1, Kp [] H H1 → Call prog g ((l1 ++ []) ++ l2) H1 (fun _ H' => CB H' cb rb rc db dc hb hc D ∧ Kp [rb, db, hb] H1 H')

theorem done2 (hC : CB H cb rb rc db dc hb hc C) : Done H cb rb rc db dc hb hc C (.func (.func f_machine_Next_2) #[] #[]) :=
  ⟨f_machine_Next_2, [], [], rfl, by kernel_rfl, fun H1 hk => F_machine_Next_2_call ⟨hC.kp0 hk, Kp.refl⟩⟩

theorem done3 (hN : NB H pB iB vB wB cb x pc addr j) (hC : CB H cb rb rc db dc hb hc C) (ha0 : 0 ≤ x.a) (ha1 : x.a < 8) :
    Done H cb rb rc db dc hb hc { C with regs := setR C.regs x.a x.imm } (.func (.func f_machine_Next_3) #[] #[.pointer (some ⟨wB, 0, none⟩), .pointer (some ⟨iB, 0, none⟩)]) := by
  refine ⟨f_machine_Next_3, [], [_, _], rfl, by kernel_rfl, fun H1 hk => F_machine_Next_3_call _ _ _ _ ?_⟩
  have hN := hN.kp0 hk
  have hC := hC.kp0 hk
  refine ⟨_, hN.wr.at rfl, _, hN.ins.at rfl, f_machine_Next_1, [], [_, _], rfl, by kernel_rfl, XCall.by (c_write hN hC ha0 ha1 _) ?_⟩
  rintro v H' h
  exact ⟨_, rfl, h⟩

theorem done4 (hN : NB H pB iB vB wB cb x pc addr j) (hC : CB H cb rb rc db dc hb hc C) (ha0 : 0 ≤ x.a) (ha1 : x.a < 8) (hb0 : 0 ≤ x.b) (hb1 : x.b < 8) :
    Done H cb rb rc db dc hb hc { C with regs := setR C.regs x.a (regOf C x.b) } (.func (.func f_machine_Next_4) #[] #[.pointer (some ⟨wB, 0, none⟩), .pointer (some ⟨pB, 0, none⟩), .pointer (some ⟨iB, 0, none⟩)]) := by
  refine ⟨f_machine_Next_4, [], [_, _, _], rfl, by kernel_rfl, fun H1 hk => F_machine_Next_4_call _ _ _ _ _ _ ?_⟩
  rintro _ rfl
  have hN := (hN.kp0 hk).kp0 (H' := H1.keep 10) (Kp.refl.keep _)
  have hC := (hC.kp0 hk).kp0 (H' := H1.keep 10) (Kp.refl.keep _)
  refine ⟨_, hN.wr.at rfl, _, hN.ptr.at rfl, cb, 0, rfl, _, _, _, hC.core.at rfl, _, hN.ins.at rfl, rb, 0, rfl, hb0, by omega, _, hC.regAt hb0 hb1, f_machine_Next_1, [], [_, _], rfl, by kernel_rfl, XCall.by (c_write hN hC ha0 ha1 _) ?_⟩
  rintro v H' ⟨h1, h2⟩
  exact ⟨_, rfl, h1, (Kp.refl.keep _).trans h2⟩

theorem done5 {nB : Nat} {w : Int} (hN : NB H pB iB vB wB cb x pc addr j) (hC : CB H cb rb rc db dc hb hc C) (ha0 : 0 ≤ x.a) (ha1 : x.a < 8) (hn : Blk H nB 1 [.int .i64 w]) :
    Done H cb rb rc db dc hb hc { C with regs := setR C.regs x.a w } (.func (.func f_machine_Next_5) #[] #[.pointer (some ⟨wB, 0, none⟩), .pointer (some ⟨nB, 0, none⟩)]) := by
  refine ⟨f_machine_Next_5, [], [_, _], rfl, by kernel_rfl, fun H1 hk => F_machine_Next_5_call _ _ _ _ ?_⟩
  have hN := hN.kp0 hk
  have hC := hC.kp0 hk
  refine ⟨_, hN.wr.at rfl, _, (hn.kp hk (by simp)).at rfl, f_machine_Next_1, [], [_, _], rfl, by kernel_rfl, XCall.by (c_write hN hC ha0 ha1 _) ?_⟩
  rintro v H' h
  exact ⟨_, rfl, h⟩

theorem done6 (hN : NB H pB iB vB wB cb x pc addr j) (hC : CB H cb rb rc db dc hb hc C) (ha0 : 0 ≤ x.a) (ha1 : x.a < 8) (h0 : 0 ≤ addr) (h1 : addr < 6) :
    Done H cb rb rc db dc hb hc { C with regs := setR C.regs x.a (C.data.getD addr.toNat 0) } (.func (.func f_machine_Next_6) #[] #[.pointer (some ⟨wB, 0, none⟩), .pointer (some ⟨pB, 0, none⟩), .pointer (some ⟨vB, 0, none⟩)]) := by
  refine ⟨f_machine_Next_6, [], [_, _, _], rfl, by kernel_rfl, fun H1 hk => F_machine_Next_6_call _ _ _ _ _ _ ?_⟩
  rintro _ rfl
  have hN := (hN.kp0 hk).kp0 (H' := H1.keep 10) (Kp.refl.keep _)
  have hC := (hC.kp0 hk).kp0 (H' := H1.keep 10) (Kp.refl.keep _)
  refine ⟨_, hN.wr.at rfl, _, hN.ptr.at rfl, cb, 0, rfl, _, _, _, hC.core.at rfl, _, hN.ev.at rfl, db, 0, rfl, h0, by omega, _, hC.dataAt h0 h1, f_machine_Next_1, [], [_, _], rfl, by kernel_rfl, XCall.by (c_write hN hC ha0 ha1 _) ?_⟩
  rintro v H' ⟨h1, h2⟩
  exact ⟨_, rfl, h1, (Kp.refl.keep _).trans h2⟩

theorem done7 (hN : NB H pB iB vB wB cb x pc addr j) (hC : CB H cb rb rc db dc hb hc C) (ha0 : 0 ≤ x.a) (ha1 : x.a < 8) (h0 : 0 ≤ addr) (h1 : addr < 6) :
    Done H cb rb rc db dc hb hc { C with data := C.data.set addr.toNat (regOf C x.a) } (.func (.func f_machine_Next_7) #[] #[.pointer (some ⟨pB, 0, none⟩), .pointer (some ⟨iB, 0, none⟩), .pointer (some ⟨vB, 0, none⟩)]) := by
  refine ⟨f_machine_Next_7, [], [_, _, _], rfl, by kernel_rfl, fun H1 hk => F_machine_Next_7_call _ _ _ _ _ _ ?_⟩
  rintro _ rfl
  have hN := (hN.kp0 hk).kp0 (H' := H1.keep 16) (Kp.refl.keep _)
  have hC := (hC.kp0 hk).kp0 (H' := H1.keep 16) (Kp.refl.keep _)
  refine ⟨_, hN.ptr.at rfl, cb, 0, rfl, _, _, _, hC.core.at rfl, _, hN.ev.at rfl, _, hN.ptr.at rfl, cb, 0, rfl, _, _, _, hC.core.at rfl, _, hN.ins.at rfl, rb, 0, rfl, ha0, by omega, _, hC.regAt ha0 ha1, db, 0, rfl, h0, by omega, _, _, hC.data.is, by simp; have := hC.dlen; omega, ?_⟩
  rintro _ rfl
  refine ⟨?_, (Kp.refl.keep _).put (.inl (by simp)) _⟩
  have := hC.setData addr.toNat (regOf C x.a)
  rw [Nat.zero_add, Nat.mul_one]; exact this

theorem done8 {lB : Nat} {t : Bool} (hN : NB H pB iB vB wB cb x pc addr j) (hC : CB H cb rb rc db dc hb hc C) (h0 : 0 ≤ x.imm) (h1 : x.imm < 4) (hl : Blk H lB 1 [.bool t]) :
    Done H cb rb rc db dc hb hc { C with held := C.held.set x.imm.toNat t } (.func (.func f_machine_Next_8) #[] #[.pointer (some ⟨lB, 0, none⟩), .pointer (some ⟨pB, 0, none⟩), .pointer (some ⟨iB, 0, none⟩)]) := by
  refine ⟨f_machine_Next_8, [], [_, _, _], rfl, by kernel_rfl, fun H1 hk => F_machine_Next_8_call _ _ _ _ _ _ ?_⟩
  rintro _ rfl
  have hN := (hN.kp0 hk).kp0 (H' := H1.keep 9) (Kp.refl.keep _)
  have hC := (hC.kp0 hk).kp0 (H' := H1.keep 9) (Kp.refl.keep _)
  have hl := (hl.kp hk (by simp)).kp (H' := H1.keep 9) (S := []) (Kp.refl.keep _) (by simp)
  refine ⟨_, hN.ptr.at rfl, cb, 0, rfl, _, _, _, hC.core.at rfl, _, hN.ins.at rfl, _, hl.at rfl, hb, 0, rfl, h0, by omega, _, _, hC.held.is, by simp; have := hC.hlen; omega, ?_⟩
  rintro _ rfl
  refine ⟨?_, (Kp.refl.keep _).put (.inl (by simp)) _⟩
  have := hC.setHeld x.imm.toNat t
  rw [Nat.zero_add, Nat.mul_one]; exact this

set_option maxHeartbeats 1000000 in
theorem c_machine_Next {p : Option Addr} {n c : Nat} {code : List InstrD} {x : InstrD} (hcode : Ls RInstr 6 H0 p n c code) (hk0 : Kp [] H0 H) (hC : CB H cb rb rc db dc hb hc C) (ok : CoreOk n 6 C) (hx : code[C.pc.toNat]? = some x) (hi : IOk x)
    (hlt : H0.next ≤ cb ∧ H0.next ≤ rb ∧ H0.next ≤ db ∧ H0.next ≤ hb) (q2 : Option Addr) (m2 d2 : Nat) (q3 : Option Addr) (m3 d3 : Nat) :
    Call prog f_machine_Next [.agg #[.slice p n c, .int .i64 6, .slice q2 m2 d2, .slice q3 m3 d3], .pointer (some ⟨cb, 0, none⟩)] H (fun v H' => Stepped H0 H' cb rb rc db dc hb hc v (stepF x n C)) := by
  refine F_machine_Next_call _ _ _ _ _ _ _ _ _ _ _ ?_
  unfold F_machine_Next
  have lc := hcode.len
  have bc := hcode.bound
  have hpc0 := ok.pc0
  have hpc1 := ok.pc1
  have hia := hi.a
  have hib := hi.b
  have hic := hi.c
  have ltc := hC.core.lt
  have ltr := hC.regs.lt
  have ltd := hC.data.lt
  have lth := hC.held.lt
  rintro H1 hH1
  have n1 : H1.next = H.next + 1 := by rw [hH1]; rfl
  have k1 : Kp [] H H1 := by rw [hH1]; exact Kp.refl.new _
  have p1 : Blk H1 H.next 1 [.pointer (some ⟨cb, 0, none⟩)] := by rw [hH1]; exact Blk.new _ _ _
  clear hH1
  rintro H2 hH2
  have n2 : H2.next = H1.next + 10 := by rw [hH2]; rfl
  have k2 : Kp [] H1 H2 := by rw [hH2]; exact Kp.refl.keep _
  clear hH2
  have p2 := p1.kp k2 (by simp)
  have hC2 := hC.kp0 (k1.trans k2)
  obtain ⟨b, k, r, t, hp, ht, rfl, -, hat⟩ := (hcode.kp0 (hk0.trans (k1.trans k2))).at (x := C.pc) hpc0 hpc1
  rw [hx] at ht; cases ht
  refine ⟨_, p2.at rfl, cb, 0, rfl, _, hC2.core.at rfl, b, k, hp, hpc0, hpc1, _, hat 0 _ rfl, _, hat 1 _ rfl, _, hat 2 _ rfl, _, hat 3 _ rfl, _, hat 4 _ rfl, _, hat 5 _ rfl, ?_⟩
  rintro H15 hH15
  have n15 : H15.next = H2.next := by rw [hH15]; rfl
  have k15 : Kp [] H1 H15 := by rw [hH15]; exact k2.put (.inr (by omega)) _
  have i15 : Blk H15 (H1.next + 8) 6 [.int .i64 0, .int .i64 0, .int .i64 0, .int .i64 0, .int .i64 0, .int .i64 0] := by rw [hH15]; exact Blk.putAt (by omega)
  clear hH15
  refine ⟨_, _, i15.is, by simp, ?_⟩
  rintro H18 hH18
  have n18 : H18.next = H2.next := by rw [hH18, ← n15]; rfl
  have k18 : Kp [] H1 H18 := by rw [hH18]; exact k15.put (.inr (by omega)) _
  have i18 : Blk H18 (H1.next + 8) 6 [.int .i64 x.ins, .int .i64 x.a, .int .i64 x.b, .int .i64 x.c, .int .i64 x.op, .int .i64 x.imm] := by rw [hH18]; exact i15.put
  clear hH18 i15 k15
  have p18 := p1.kp k18 (by simp)
  have hC18 := hC.kp0 (k1.trans k18)
  refine ⟨_, p18.at rfl, cb, 0, rfl, _, hC18.core.at rfl, ?_⟩
  rintro H23 hH23
  have n23 : H23.next = H18.next + 1 := by rw [hH23]; rfl
  have k23 : Kp [] H18 H23 := by rw [hH23]; exact Kp.refl.new _
  have v23 : Blk H23 H18.next 3 [.int .i64 0, .int .i64 0, .bool false] := by rw [hH23]; exact Blk.new _ _ _
  clear hH23
  refine ⟨_, _, v23.is, by simp, ?_⟩
  rintro H26 hH26
  have n26 : H26.next = H18.next + 1 := by rw [hH26, ← n23]; rfl
  have k26 : Kp [] H18 H26 := by rw [hH26]; exact k23.put (.inr (by omega)) _
  have v26 : Blk H26 H18.next 3 [.int .i64 C.pc, .int .i64 (-1), .bool false] := by rw [hH26]; exact v23.put
  clear hH26 v23 k23
  have k126 := k18.trans k26
  have p26 := p1.kp k126 (by simp)
  have hC26 := hC.kp0 (k1.trans k126)
  refine ⟨_, p26.at rfl, cb, 0, rfl, _, hC26.core.at rfl, ?_⟩
  rintro H31 hH31
  have n31 : H31.next = H26.next + 1 := by rw [hH31]; rfl
  have k31 : Kp [] H26 H31 := by rw [hH31]; exact Kp.refl.new _
  have w31 : Blk H31 H26.next 1 [.nilFunc] := by rw [hH31]; exact Blk.new _ _ _
  clear hH31
  refine ⟨_, _, w31.is, by simp, ?_⟩
  rintro H34 hH34
  have n34 : H34.next = H26.next + 1 := by rw [hH34, ← n31]; rfl
  have k34 : Kp [] H26 H34 := by rw [hH34]; exact k31.put (.inr (by omega)) _
  have w34 : Blk H34 H26.next 1 [.func (.func f_machine_Next_1) #[] #[.pointer (some ⟨H1.next + 8, 0, none⟩), .pointer (some ⟨H.next, 0, none⟩)]] := by rw [hH34]; exact w31.put
  clear hH34 w31 k31
  have kH : Kp [] H H34 := (k1.trans k126).trans k34
  have hN34 : NB H34 H.next (H1.next + 8) H18.next H26.next cb x C.pc (-1) false := ⟨p1.kp (k126.trans k34) (by simp), i18.kp (k26.trans k34) (by simp), v26.kp k34 (by simp), w34⟩
  have hC34 := hC.kp0 kH
  have hk34 := hk0.trans kH
  obtain ⟨iB, hiB⟩ : ∃ b, b = H1.next + 8 := ⟨_, rfl⟩
  obtain ⟨vB, hvB⟩ : ∃ b, b = H18.next := ⟨_, rfl⟩
  obtain ⟨wB, hwB⟩ : ∃ b, b = H26.next := ⟨_, rfl⟩
  rw [← hiB, ← hvB, ← hwB] at hN34 ⊢
  have hpv : H.next ≠ vB := by omega
  have hiv : iB ≠ vB := by omega
  have hwv : wB ≠ vB := by omega
  obtain ⟨hcb, hrb, hdb, hhb⟩ := hlt
  have hp0 : H0.next ≤ H.next := hk0.next
  clear p1 p2 p18 p26 hC2 hC18 hC26 i18 v26 w34 k1 k2 k18 k26 k126 k34
  intro K35 hK35
  rw [wrap_id (x := C.pc + 1) (by omega)] at hK35
  -- behind the switch
  have fin : ∀ (H40 : LH) (f : Value) (addr : Int) (j : Bool), Kp [] H0 H40 → NB H40 H.next iB vB wB cb x C.pc addr j → CB H40 cb rb rc db dc hb hc C → Done H40 cb rb rc db dc hb hc (effect x addr C) f →
      (∀ nx : Int, nx = (if j then x.imm else C.pc + 1) → stepF x n C = if (n : Int) ≤ nx then ((0, 0, false), 12, C) else ((C.pc, addr, j), 0, { effect x addr C with pc := nx })) → K35 0 0 false f H40 := by
    intro H40 f addr j hk40 hN hC40 hf hS
    refine hK35 _ _ _ _ _ ?_
    intro K41 hK41
    have key : K41 (if j then x.imm else C.pc + 1) H40 := by
      generalize hnx : (if j then x.imm else C.pc + 1) = nx at hS
      have hS := hS nx rfl
      refine hK41 _ _ ⟨hcode.nil, fun g => ?_, fun g => ?_⟩
      · have g : (n : Int) ≤ nx := by simpa using g
        rw [if_pos g] at hS
        rw [hS]; exact ⟨rfl, hC40, hk40⟩
      · have g : ¬ (n : Int) ≤ nx := by simpa using g
        rw [if_neg g] at hS
        obtain ⟨gf, l1, l2, rfl, hok, hcall⟩ := hf.is
        refine ⟨gf, l1, l2, rfl, hok, XCall.by (hcall H40 Kp.refl) ?_⟩
        rintro v H48 ⟨hC48, hk48⟩
        have hN48 : NB H48 H.next iB vB wB cb x C.pc addr j := hN.kp hk48 (by simp; omega) (by simp; omega) (by simp; omega) (by simp; omega)
        have hk48' : Kp [] H0 H48 := hk40.drop hk48 (by simp; omega)
        refine ⟨_, rfl, _, hN48.ptr.at rfl, cb, 0, rfl, _, _, hC48.core.is, by simp, ?_⟩
        rintro H55 hH55
        have hC55 : CB H55 cb rb rc db dc hb hc { effect x addr C with pc := nx } := by rw [hH55]; exact hC48.setPc nx
        have hk55 : Kp [] H0 H55 := by rw [hH55]; exact hk48'.put (.inr hcb) _
        have hv55 : Blk H55 vB 3 [.int .i64 C.pc, .int .i64 addr, .bool j] := by rw [hH55]; exact hN48.ev.putNe (by omega)
        refine ⟨_, hv55.at rfl, _, hv55.at rfl, _, hv55.at rfl, ?_⟩
        rw [hS]; exact ⟨rfl, hC55, hk55⟩
    refine ⟨j, hN.ev.at rfl, fun g => ?_, fun g => ?_⟩
    · rw [g] at key; exact ⟨_, hN.ins.at rfl, key⟩
    · rw [g] at key; exact key
  have W := fun {i : Int} (h0 : 0 ≤ i) (h1 : i < 8) => regOf_W ok h0 h1
  -- a step that does not jump, and is no load, store, lock or unlock
  have plain : ¬ (x.ins = 8 ∨ x.ins = 9) → ¬ (x.ins = 4 ∨ x.ins = 5) → x.ins ≠ 10 → ∀ j, jumpsF x C = j → ∀ nx : Int, nx = (if j then x.imm else C.pc + 1) →
      stepF x n C = if (n : Int) ≤ nx then ((0, 0, false), 12, C) else ((C.pc, -1, j), 0, { effect x (-1) C with pc := nx }) := by
    intro s1 s2 s3 j hj nx hnx
    have e1 : addrF x C = -1 := by unfold addrF; rw [if_neg s2]
    have e3 : nextF x C = nx := by unfold nextF; rw [if_neg s3, hj, hnx]
    unfold stepF
    rw [if_neg (fun hh => s1 hh.1), if_neg (fun hh => s2 hh.1), e1, e3, hj]
  refine ⟨_, hN34.ins.at rfl, fun g10 => ?_, fun n10 => ⟨fun g1 => ?_, fun n1' => ⟨fun g2 => ?_, fun n2' => ⟨fun g3 => ?_, fun n3 => ?_⟩⟩⟩⟩
  · have g10 : x.ins = 10 := by simpa using g10
    refine ⟨_, hN34.ptr.at rfl, cb, 0, rfl, _, _, hC34.core.is, by simp, ?_⟩
    rintro H70 hH70
    have hC70 : CB H70 cb rb rc db dc hb hc { C with ended := true } := by rw [hH70]; exact hC34.setEnded true
    have hk70 : Kp [] H0 H70 := by rw [hH70]; exact hk34.put (.inr hcb) _
    have hv70 : Blk H70 vB 3 [.int .i64 C.pc, .int .i64 (-1), .bool false] := by rw [hH70]; exact hN34.ev.putNe (by omega)
    refine ⟨_, hv70.at rfl, _, hv70.at rfl, _, hv70.at rfl, ?_⟩
    have hS : stepF x n C = ((C.pc, -1, false), 0, { C with ended := true }) := by
      unfold stepF
      have e1 : addrF x C = -1 := by unfold addrF; rw [if_neg (by omega)]
      have e2 : jumpsF x C = false := by unfold jumpsF; simp; omega
      have e3 : nextF x C = C.pc := by unfold nextF; rw [if_pos g10]
      rw [if_neg (by omega), if_neg (by omega), e3, if_neg (by omega), e1, e2]
      simp [effect, g10]
    rw [hS]; exact ⟨rfl, hC70, hk70⟩
  · have g1 : x.ins = 1 := by simpa using g1
    refine fin _ _ _ _ hk34 hN34 hC34 ?_ (plain (by omega) (by omega) (by omega) false (by unfold jumpsF; simp; omega))
    have := done3 hN34 hC34 hia.1 hia.2
    rw [show effect x (-1) C = { C with regs := setR C.regs x.a x.imm } by simp [effect, g1]]; exact this
  · have g2 : x.ins = 2 := by simpa using g2
    refine fin _ _ _ _ hk34 hN34 hC34 ?_ (plain (by omega) (by omega) (by omega) false (by unfold jumpsF; simp; omega))
    have := done4 hN34 hC34 hia.1 hia.2 hib.1 hib.2
    rw [show effect x (-1) C = { C with regs := setR C.regs x.a (regOf C x.b) } by simp [effect, g2]]; exact this
  · have g3 : x.ins = 3 := by simpa using g3
    have hop := hi.op g3
    rintro H74 hH74
    have n74 : H74.next = H34.next + 25 := by rw [hH74]; rfl
    have k74 : Kp [] H34 H74 := by rw [hH74]; exact Kp.refl.keep _
    clear hH74
    have hN74 := hN34.kp0 k74
    have hC74 := hC34.kp0 k74
    refine ⟨_, hN74.ins.at rfl, _, hN74.ptr.at rfl, cb, 0, rfl, _, _, _, hC74.core.at rfl, _, hN74.ins.at rfl, rb, 0, rfl, hib.1, by omega, _, hC74.regAt hib.1 hib.2, _, hN74.ptr.at rfl, cb, 0, rfl, _, _, _, hC74.core.at rfl, _, hN74.ins.at rfl, rb, 0, rfl, hic.1, by omega, _, hC74.regAt hic.1 hic.2, fun _ _ => trivial, ?_⟩
    refine XCall.by (c_word_Do hop.1 hop.2) ?_
    rintro _ H98 ⟨rfl, hk98⟩
    refine ⟨_, _, rfl, ?_⟩
    rintro H101 hH101
    have nx98 := hk98.next
    have b101 : Blk H101 (H34.next + 22) 1 [.int .i64 0] := by rw [hH101]; exact Blk.putAt (by omega)
    have k101 : Kp [] H34 H101 := by rw [hH101]; exact (k74.trans hk98).put (.inr (by omega)) _
    clear hH101
    refine ⟨_, _, b101.is, by simp, ?_⟩
    rintro H104 hH104
    have b104 : Blk H104 (H34.next + 22) 1 [.int .i64 (doV x.op (regOf C x.b) (regOf C x.c))] := by rw [hH104]; exact b101.put
    have k104 : Kp [] H34 H104 := by rw [hH104]; exact k101.put (.inr (by omega)) _
    clear hH104
    refine fin _ _ _ _ (hk34.trans k104) (hN34.kp0 k104) (hC34.kp0 k104) ?_ (plain (by omega) (by omega) (by omega) false (by unfold jumpsF; simp; omega))
    have := done5 (hN34.kp0 k104) (hC34.kp0 k104) hia.1 hia.2 b104
    rw [show effect x (-1) C = { C with regs := setR C.regs x.a (doV x.op (regOf C x.b) (regOf C x.c)) } by simp [effect, g3]]; exact this
  have n10 : x.ins ≠ 10 := by simpa using n10
  have n1' : x.ins ≠ 1 := by simpa using n1'
  have n2' : x.ins ≠ 2 := by simpa using n2'
  have n3 : x.ins ≠ 3 := by simpa using n3
  intro K105 hK105
  have key : ∀ t : Bool, (t = true ↔ x.ins = 4 ∨ x.ins = 5) → K105 t H34 := by
    intro t ht
    refine hK105 _ _ ⟨fun g => ?_, fun g => ?_⟩
    · have g := ht.1 g
      have hm := hi.imm4 (by omega)
      have hw := W hib.1 hib.2
      rintro H108 hH108
      have k108 : Kp [] H34 H108 := by rw [hH108]; exact Kp.refl.keep _
      clear hH108
      have hN108 := hN34.kp0 k108
      have hC108 := hC34.kp0 k108
      refine ⟨_, hN108.ptr.at rfl, cb, 0, rfl, _, _, _, hC108.core.at rfl, _, hN108.ins.at rfl, rb, 0, rfl, hib.1, by omega, _, hC108.regAt hib.1 hib.2, _, hN108.ins.at rfl, _, _, hN108.ev.is, by simp, ?_⟩
      rw [wrap_id (x := regOf C x.b + x.imm) (by omega)]
      have e1 : addrF x C = regOf C x.b + x.imm := by unfold addrF; rw [if_pos g]
      have e2 : jumpsF x C = false := by unfold jumpsF; simp; omega
      have e3 : nextF x C = C.pc + 1 := by unfold nextF; rw [if_neg n10, e2]; rfl
      rw [← e1]
      rintro H122 hH122
      have k122 : Kp [] H0 H122 := by rw [hH122]; exact (hk34.trans k108).put (.inr (by omega)) _
      have hN122 : NB H122 H.next iB vB wB cb x C.pc (addrF x C) false := by rw [hH122]; exact hN108.setEv hpv hiv hwv _ _
      have hC122 : CB H122 cb rb rc db dc hb hc C := by
        rw [hH122]
        exact { hC108 with core := hC108.core.putNe (by omega), regs := hC108.regs.putNe (by omega), data := hC108.data.putNe (by omega), held := hC108.held.putNe (by omega) }
      clear hH122
      have s1 : ¬ ((x.ins = 8 ∨ x.ins = 9) ∧ C.held.getD x.imm.toNat false = decide (x.ins = 8)) := fun hh => by omega
      have bad : (addrF x C < 0 ∨ 6 ≤ addrF x C) → stepF x n C = ((0, 0, false), 12, C) := fun hh => by
        unfold stepF; rw [if_neg s1, if_pos ⟨g, hh⟩]
      refine ⟨_, hN122.ev.at rfl, fun g2 => ?_, fun g2 => ⟨_, hN122.ev.at rfl, fun g3 => ?_, fun g3 => ⟨_, hN122.ins.at rfl, fun g5 => ?_, fun g5 => ?_⟩⟩⟩
      · have g2 : addrF x C < 0 := by simpa using g2
        rw [bad (.inl g2)]; exact ⟨rfl, hC122, k122⟩
      · have g3 : 6 ≤ addrF x C := by simpa using g3
        rw [bad (.inr g3)]; exact ⟨rfl, hC122, k122⟩
      all_goals
        have g2 : ¬ addrF x C < 0 := by simpa using g2
        have g3 : ¬ 6 ≤ addrF x C := by simpa using g3
        refine fin _ _ _ _ k122 hN122 hC122 ?_ (fun nx hnx => by unfold stepF; rw [if_neg s1, if_neg (fun hh => by omega), e3, e2, hnx]; rfl)
      · have g5 : x.ins = 5 := by simpa using g5
        have := done7 hN122 hC122 hia.1 hia.2 (by omega) (by omega)
        rw [show effect x (addrF x C) C = { C with data := C.data.set (addrF x C).toNat (regOf C x.a) } by simp [effect, g5]]; exact this
      · have g5 : x.ins ≠ 5 := by simpa using g5
        have g4 : x.ins = 4 := by omega
        have := done6 hN122 hC122 hia.1 hia.2 (by omega) (by omega)
        rw [show effect x (addrF x C) C = { C with regs := setR C.regs x.a (C.data.getD (addrF x C).toNat 0) } by simp [effect, g4]]; exact this
    · have s2 : ¬ (x.ins = 4 ∨ x.ins = 5) := fun hh => by have := ht.2 hh; rw [g] at this; cases this
      refine ⟨fun g6 => ?_, fun n6 => ⟨fun g7 => ?_, fun n7 => ?_⟩⟩
      · have g6 : x.ins = 6 := by simpa using g6
        refine ⟨_, _, hN34.ev.is, by simp, ?_⟩
        rintro H128 hH128
        have k128 : Kp [] H0 H128 := by rw [hH128]; exact hk34.put (.inr (by omega)) _
        have hN128 : NB H128 H.next iB vB wB cb x C.pc (-1) true := by rw [hH128]; exact hN34.setEv hpv hiv hwv _ _
        have hC128 : CB H128 cb rb rc db dc hb hc C := by
          rw [hH128]
          exact { hC34 with core := hC34.core.putNe (by omega), regs := hC34.regs.putNe (by omega), data := hC34.data.putNe (by omega), held := hC34.held.putNe (by omega) }
        clear hH128
        refine fin _ _ _ _ k128 hN128 hC128 ?_ (plain (by omega) s2 n10 true (by unfold jumpsF; simp [g6]))
        rw [show effect x (-1) C = C by simp [effect, g6]]; exact done2 hC128
      · have g7 : x.ins = 7 := by simpa using g7
        rintro H129 hH129
        have k129 : Kp [] H34 H129 := by rw [hH129]; exact Kp.refl.keep _
        clear hH129
        have hN129 := hN34.kp0 k129
        have hC129 := hC34.kp0 k129
        refine ⟨_, hN129.ptr.at rfl, cb, 0, rfl, _, _, _, hC129.core.at rfl, _, hN129.ins.at rfl, rb, 0, rfl, hia.1, by omega, _, hC129.regAt hia.1 hia.2, _, _, hN129.ev.is, by simp, ?_⟩
        rintro H142 hH142
        have k142 : Kp [] H0 H142 := by rw [hH142]; exact (hk34.trans k129).put (.inr (by omega)) _
        have hN142 : NB H142 H.next iB vB wB cb x C.pc (-1) (decide (regOf C x.a = 0)) := by rw [hH142]; exact hN129.setEv hpv hiv hwv _ _
        have hC142 : CB H142 cb rb rc db dc hb hc C := by
          rw [hH142]
          exact { hC129 with core := hC129.core.putNe (by omega), regs := hC129.regs.putNe (by omega), data := hC129.data.putNe (by omega), held := hC129.held.putNe (by omega) }
        clear hH142
        refine fin _ _ _ _ k142 hN142 hC142 ?_ (plain (by omega) s2 n10 _ (by unfold jumpsF; simp [g7]))
        rw [show effect x (-1) C = C by simp [effect, g7]]; exact done2 hC142
      · have n6 : x.ins ≠ 6 := by simpa using n6
        have n7 : x.ins ≠ 7 := by simpa using n7
        intro K143 hK143
        have key2 : ∀ u : Bool, (u = true ↔ x.ins = 8 ∨ x.ins = 9) → K143 u H34 := by
          intro u hu
          refine hK143 _ _ ⟨fun g => ?_, fun g => ?_⟩
          · have g := hu.1 g
            have hm := hi.imm8 g
            refine ⟨_, hN34.ins.at rfl, ?_⟩
            rintro H147 hH147
            have n147 : H147.next = H34.next + 1 := by rw [hH147]; rfl
            have k147 : Kp [] H34 H147 := by rw [hH147]; exact Kp.refl.new _
            have l147 : Blk H147 H34.next 1 [.bool false] := by rw [hH147]; exact Blk.new _ _ _
            clear hH147
            refine ⟨_, _, l147.is, by simp, ?_⟩
            rintro H150 hH150
            have k150 : Kp [] H34 H150 := by rw [hH150]; exact k147.put (.inr (by omega)) _
            have l150 : Blk H150 H34.next 1 [.bool (decide (x.ins = 8))] := by rw [hH150]; exact l147.put
            clear hH150
            rintro H151 hH151
            have k151 : Kp [] H150 H151 := by rw [hH151]; exact Kp.refl.keep _
            clear hH151
            have kk := k150.trans k151
            have l151 := l150.kp k151 (by simp)
            have hN151 := hN34.kp0 kk
            have hC151 := hC34.kp0 kk
            refine ⟨_, hN151.ptr.at rfl, cb, 0, rfl, _, _, _, hC151.core.at rfl, _, hN151.ins.at rfl, hb, 0, rfl, hm.1, by omega, _, hC151.heldAt hm.1 hm.2, _, l151.at rfl, fun g2 => ?_, fun g2 => ?_⟩
            · have g2 : C.held.getD x.imm.toNat false = decide (x.ins = 8) := by simpa using g2
              have hS : stepF x n C = ((0, 0, false), 14, C) := by unfold stepF; rw [if_pos ⟨g, g2⟩]
              rw [hS]; exact ⟨rfl, hC151, hk34.trans kk⟩
            · have g2 : ¬ C.held.getD x.imm.toNat false = decide (x.ins = 8) := by simpa using g2
              have e1 : addrF x C = -1 := by unfold addrF; rw [if_neg s2]
              have e2 : jumpsF x C = false := by unfold jumpsF; simp; omega
              have e3 : nextF x C = C.pc + 1 := by unfold nextF; rw [if_neg n10, e2]; rfl
              refine fin _ _ _ _ (hk34.trans kk) hN151 hC151 ?_ (fun nx hnx => by unfold stepF; rw [if_neg (fun hh => g2 hh.2), if_neg (fun hh => s2 hh.1), e3, e2, e1, hnx]; rfl)
              have := done8 hN151 hC151 hm.1 hm.2 l151
              rcases g with g8 | g9
              · rw [show effect x (-1) C = { C with held := C.held.set x.imm.toNat (decide (x.ins = 8)) } by simp [effect, g8]]; exact this
              · rw [show effect x (-1) C = { C with held := C.held.set x.imm.toNat (decide (x.ins = 8)) } by simp [effect, g9]]; exact this
          · have s1 : ¬ (x.ins = 8 ∨ x.ins = 9) := fun hh => by have := hu.2 hh; rw [g] at this; cases this
            refine fin _ _ _ _ hk34 hN34 hC34 ?_ (plain s1 s2 n10 false (by unfold jumpsF; simp; omega))
            have hins := hi.ins
            have g0 : x.ins = 0 := by omega
            rw [show effect x (-1) C = C by simp [effect, g0]]; exact done2 hC34
        refine ⟨fun h => key2 _ ?_, fun h => key2 _ ?_⟩
        · have : x.ins = 8 := by simpa using h
          simp [this]
        · have : x.ins ≠ 8 := by simpa using h
          simp [this]
  refine ⟨fun h => key _ ?_, fun h => key _ ?_⟩
  · have : x.ins = 4 := by simpa using h
    simp [this]
  · have : x.ins ≠ 4 := by simpa using h
    simp [this]

end Go.Lg
