/- The statement of raw steps. No condition. -/
import Derived.Test.YtaehendkbicepaaC11
import Derived.Test.YtaehendkbicepaaB3
import Derived.Test.YtaehendkbicepaaRows
import Derived.ProofKit
set_option linter.unusedVariables false
set_option maxRecDepth 100000
namespace Go.Lg
open Go Go.ChangeShapes Go.WideShapes Go.RowKit Go.Proofs

theorem own_knob : ownKnob Try.prog.godebug = none := by kernel_rfl
theorem laid_out : laidOutB Try.prog = true := by kernel_rfl
theorem cells_3 : Try.prog.cellsOf 3 = 1 := by kernel_rfl
theorem cells_4 : Try.prog.cellsOf 4 = 1 := by kernel_rfl
theorem cells_22 : Try.prog.cellsOf 22 = 1 := by kernel_rfl
theorem cells_33 : Try.prog.cellsOf 33 = 1 := by kernel_rfl
theorem cells_36 : Try.prog.cellsOf 36 = 5 := by kernel_rfl
theorem bytes_3 : Try.prog.bytesOf 3 = 8 := by kernel_rfl
theorem bytes_4 : Try.prog.bytesOf 4 = 1 := by kernel_rfl
theorem types_36 : Try.prog.cellTypes Try.prog.depth 36 = some [22, 22, 33, 3, 4] := by kernel_rfl

theorem all_each {D : Type} {P : Program} {ts : List TypeId} {ds : List (DataW D)} (h : (DataW.weightsEach P ts ds).all (· ≤ reachBytes) = true) {j : Nat} {t : TypeId} {d : DataW D} (ht : ts[j]? = some t) (hd : ds[j]? = some d) :
    (d.weights P t).all (· ≤ reachBytes) = true := List.all_eq_true.2 fun n hn => List.all_eq_true.1 h n (DataW.weights_mem_each ht hd n hn)

theorem valueOk_slice {P : Program} {W : World} {r : Reach} {base : Nat} {t e : TypeId} {v : Value} (ht : P.underlying t = some (.slice e)) (h : Cell.okWide P W r base t v) : Value.okWide P W r base t v := by
  unfold Value.okWide; rw [ht]; exact h
theorem valueOk_int {P : Program} {W : World} {r : Reach} {base : Nat} {t : TypeId} {k : IntKind} {v : Value} (ht : P.underlying t = some (.int k)) (h : Cell.okWide P W r base t v) : Value.okWide P W r base t v := by
  unfold Value.okWide; rw [ht]; exact h
theorem valueOk_bool {P : Program} {W : World} {r : Reach} {base : Nat} {t : TypeId} {v : Value} (ht : P.underlying t = some .bool) (h : Cell.okWide P W r base t v) : Value.okWide P W r base t v := by
  unfold Value.okWide; rw [ht]; exact h

section
variable {D : Type} {enc : TypeId × Value → D} {W : World} {φ : Phi} {H : LH} {base : Nat}

/-- A core as an argument. -/
theorem Br.core {v : Value} {d : DataW D} {ps : List MemPlace} (h : Br φ H W) (hok : Value.okWide Try.prog W .any base 36 v) (ht : DataW.Trod enc Try.prog W 0 (fun _ => true) true 36 v d ps)
    (hw : (d.weights Try.prog 36).all (· ≤ reachBytes) = true) :
    ∃ φ' H' p1 n1 c1 p2 n2 c2 p3 n3 c3 C, Br φ' H' W ∧ Ext φ φ' ∧ Kp [] H H' ∧ VR φ' (.agg #[.slice p1 n1 c1, .slice p2 n2 c2, .slice p3 n3 c3, .int .i64 C.pc, .bool C.ended]) v ∧
      CoreAt H' p1 n1 c1 p2 n2 c2 p3 n3 c3 C.pc C.ended C ∧ n1 ≤ 140737488355328 ∧ n2 ≤ 140737488355328 ∧ n3 ≤ 140737488355328 := by
  unfold Value.okWide at hok
  rw [Try.underlying36] at hok
  obtain ⟨cs, rfl, hsz, ts, hts, -, hcell⟩ := hok
  rw [types_36] at hts; cases hts
  rw [cells_36] at hsz
  obtain ⟨fuel, hf⟩ := ht
  obtain ⟨xs, n, -, hx, -, hlen, hfld⟩ := DataW.trod_struct Try.underlying36 hf
  obtain ⟨l⟩ := cs
  match l, hsz with
  | [v0, v1, v2, v3, v4], _ =>
  match xs, hlen with
  | [x0, x1, x2, x3, x4], _ =>
  obtain ⟨u0, hu0, k0⟩ := hcell 0 v0 rfl
  obtain ⟨u1, hu1, k1⟩ := hcell 1 v1 rfl
  obtain ⟨u2, hu2, k2⟩ := hcell 2 v2 rfl
  obtain ⟨u3, hu3, k3⟩ := hcell 3 v3 rfl
  obtain ⟨u4, hu4, k4⟩ := hcell 4 v4 rfl
  cases hu0; cases hu1; cases hu2; cases hu3; cases hu4
  obtain ⟨q1, m1, e1, rfl⟩ := okWide_slice Try.underlying22 (valueOk_slice Try.underlying22 k0)
  obtain ⟨q2, m2, e2, rfl⟩ := okWide_slice Try.underlying22 (valueOk_slice Try.underlying22 k1)
  obtain ⟨q3, m3, e3, rfl⟩ := okWide_slice Try.underlying33 (valueOk_slice Try.underlying33 k2)
  obtain ⟨pc, rfl⟩ := okWide_int Try.underlying3 (valueOk_int Try.underlying3 k3)
  obtain ⟨en, rfl⟩ := okWide_bool Try.underlying4 (valueOk_bool Try.underlying4 k4)
  have f0 := hfld 0 _ rfl
  have f1 := hfld 1 _ rfl
  have f2 := hfld 2 _ rfl
  simp only [Value.cells, cells_22, cells_33, List.drop_zero, List.drop_succ_cons, List.take_succ_cons, List.take_zero, List.getElem?_cons_zero, List.getElem?_cons_succ] at f0 f1 f2
  have hd : d = (DataW.agg ([x0, x1, x2, x3, x4].map (·.1))) := congrArg Prod.fst hx
  subst hd
  have hww : (DataW.weightsEach Try.prog [22, 22, 33, 3, 4] ([x0, x1, x2, x3, x4].map (·.1))).all (· ≤ reachBytes) = true := by
    simp only [DataW.weights, Try.underlying36] at hw
    exact hw
  obtain ⟨φ1, H1, p1, n1, c1, z1, g1, g2, g3, g4, g5, g6, -⟩ := h.ints Try.underlying22 Try.underlying3 cells_3 f0 k0 (all_each hww (j := 0) rfl rfl) (by rw [bytes_3]; omega)
  obtain ⟨φ2, H2, p2, n2, c2, z2, i1, i2, i3, i4, i5, i6, -⟩ := g1.ints Try.underlying22 Try.underlying3 cells_3 f1 k1 (all_each hww (j := 1) rfl rfl) (by rw [bytes_3]; omega)
  obtain ⟨φ3, H3, p3, n3, c3, z3, j1, j2, j3, j4, j5, j6⟩ := i1.bools Try.underlying33 Try.underlying4 cells_4 f2 k2 (all_each hww (j := 2) rfl rfl) (by rw [bytes_4]; omega)
  refine ⟨φ3, H3, p1, n1, c1, p2, n2, c2, p3, n3, c3, ⟨z1, z2, z3, pc, en⟩, j1, (g2.trans i2).trans j2, (g3.trans i3).trans j3, ?_, ⟨?_, ?_, ?_, rfl, rfl⟩, by omega, by omega, by omega⟩
  · exact VR.agg_list (.cons (g4.ext (i2.trans j2)) (.cons (i4.ext j2) (.cons j4 (.cons (.int _ _) (.cons (.bool _) .nil)))))
  · exact (g5.kp0 i3).kp0 j3
  · exact i5.kp0 j3
  · exact j5

/-- A list of numbers as an argument. -/
theorem Br.deck {v : Value} {d : DataW D} {ps : List MemPlace} (h : Br φ H W) (hok : Value.okWide Try.prog W .any base 22 v) (ht : DataW.Trod enc Try.prog W 0 (fun _ => true) true 22 v d ps)
    (hw : (d.weights Try.prog 22).all (· ≤ reachBytes) = true) :
    ∃ φ' H' p n c xs, Br φ' H' W ∧ Ext φ φ' ∧ Kp [] H H' ∧ VR φ' (.slice p n c) v ∧ Ints H' p n c xs := by
  obtain ⟨q, m, e, rfl⟩ := okWide_slice Try.underlying22 hok
  obtain ⟨fuel, hf⟩ := ht
  obtain ⟨φ1, H1, p1, n1, c1, z1, g1, g2, g3, g4, g5, g6, -⟩ := h.ints Try.underlying22 Try.underlying3 cells_3 (by simpa [Value.cells] using hf) (cellOk_of Try.underlying22 hok) hw (by rw [bytes_3]; omega)
  exact ⟨φ1, H1, p1, n1, c1, z1, g1, g2, g3, g4, g5⟩
end

set_option maxRecDepth 100000 in
theorem raw_lifted (os : Os) (started : os.Started) (D : Type) (enc : TypeId × Value → D) :
    ReturnsInHanded {} Try.checked os 4 .any (Ytaehendkbicepaa.Rows.machineRawSpec.pre6 enc Try.prog Try.f4 Ytaehendkbicepaa.Rows.machineRawRow.domain false) (Ytaehendkbicepaa.Rows.machineRawSpec.post enc Try.prog Try.f4 false true false false) := by
  refine returnsInHanded_of_change_sized (C := Try.checked) own_knob started (by kernel_rfl) Try.func4
    (ChangeSpec.witness6 (enc := enc) (C := Try.checked) false ⟨#[], #[.slice none 0 0, .agg #[.slice none 0 0, .slice none 0 0, .slice none 0 0, .int .i64 0, .bool false], .int .u8 0], []⟩ 8 (by kernel_rfl) (by kernel_rfl) (by kernel_rfl) (by kernel_rfl)) ?_
  intro W base args ds gs before hval0 hW hcnd hsz0 _
  have hsz : (DataW.weightsEach Try.prog (Try.f4.params.toList ++ Ytaehendkbicepaa.Rows.machineRawSpec.plain.varTypes Try.prog) (ds ++ gs)).all (· ≤ reachBytes) = true := hsz0
  have hval : ∀ (j : Nat) t v, Try.f4.params[j]? = some t → args[j]? = some v → Value.okWide Try.prog W .any base t v := hval0
  clear hsz0 hval0
  have hW' := hW
  obtain ⟨p, q, hA0, hV, rfl, -, -⟩ := hW
  have hA : DataW.TrodAll enc Try.prog W 0 (fun _ => true) true Try.f4.params.toList args.toList ds p := hA0
  rw [Try.params4] at hA hval hsz
  obtain ⟨v0, v1, v2, d0, d1, d2, p0, p1, p2, rfl, rfl, rfl, h0, h1, h2⟩ := trodAll_three hA
  obtain ⟨rfl, rfl⟩ := trodVars_none hV
  obtain ⟨sp, rfl, rfl, rfl, -⟩ := open_int Try.underlying5 (hval 2 5 v2 rfl rfl) h2
  obtain ⟨φ1, H1, q1, n1, c1, xs, b1, x1, k1, r1, l1⟩ := (Br.nil W).deck (hval 0 22 v0 rfl rfl) h0 (all_each hsz (j := 0) rfl rfl)
  obtain ⟨φ2, H2, p1', n1', c1', p2', n2', c2', p3', n3', c3', C, b2, x2, k2, r2, l2, s1, s2, s3⟩ := b1.core (hval 1 36 v1 rfl rfl) h1 (all_each hsz (j := 1) rfl rfl)
  refine law_post (fn := Try.f4) (s := Ytaehendkbicepaa.Rows.machineRawSpec) (tb := 4) laid_out ?_ (by kernel_rfl) Try.underlying4 rfl rfl hW' b2 (.cons (r1.ext x2) (.cons r2 (.cons (.int .u8 sp) .nil))) (c_MachineRaw (l1.kp0 k2) (l1.kp0 k2).lt l2 s1 s2 s3 sp) (fun v H' h => h.1)
  rw [Try.params4]
  intro t ht
  simp only [List.mem_cons, List.not_mem_nil, or_false] at ht
  rcases ht with rfl | rfl | rfl <;> exact ⟨by kernel_rfl, of_decide_eq_true (by kernel_rfl)⟩

theorem raw_holds : Ytaehendkbicepaa.Rows.MachineRawSaid :=
  OpenClaim.holds_of_wide 4 Try.f4 rfl rfl rfl rfl rfl rfl rfl ⟨rfl, rfl, rfl, rfl, rfl⟩ rfl rfl rfl rfl rfl (by kernel_rfl) Try.func4 (by kernel_rfl)
    (of_decide_eq_true (by kernel_rfl)) (by unfold Func.isWrapper; first | (rw [if_pos (by decide +kernel)]; kernel_rfl) | (rw [if_neg (by decide +kernel)]; exact ⟨rfl, rfl⟩))
    (fun os started D enc _ => raw_lifted os started D enc)

end Go.Lg
