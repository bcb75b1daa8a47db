/- The statement of urgencies. No condition. -/
import Derived.Test.YtaehendkbicepaaGreatD4
import Derived.Test.YtaehendkbicepaaGreatB3
import Derived.Test.YtaehendkbicepaaGreatRows
import Derived.ProofKit
set_option linter.unusedVariables false
set_option maxRecDepth 100000
namespace Go.Lg
open Go Go.ChangeShapes Go.WideShapes Go.RowKit Go.Proofs

theorem own_knob : ownKnob Tryz.prog.godebug = none := by kernel_rfl
theorem laid_out : laidOutB Tryz.prog = true := by kernel_rfl
theorem cells_3 : Tryz.prog.cellsOf 3 = 1 := by kernel_rfl
theorem cells_89 : Tryz.prog.cellsOf 89 = 2 := by kernel_rfl
theorem bytes_3 : Tryz.prog.bytesOf 3 = 8 := by kernel_rfl
theorem bytes_89 : Tryz.prog.bytesOf 89 = 16 := by kernel_rfl

theorem all_each {D : Type} {P : Program} {ts : List TypeId} {ds : List (DataW D)} (h : (DataW.weightsEach P ts ds).all (· ≤ reachBytes) = true) {j : Nat} {t : TypeId} {d : DataW D} (ht : ts[j]? = some t) (hd : ds[j]? = some d) :
    (d.weights P t).all (· ≤ reachBytes) = true := List.all_eq_true.2 fun n hn => List.all_eq_true.1 h n (DataW.weights_mem_each ht hd n hn)

section
variable {D : Type} {enc : TypeId × Value → D} {W : World} {φ : Phi} {H : LH} {base : Nat}

/-- A list of numbers as an argument. -/
theorem Br.deck {v : Value} {d : DataW D} {ps : List MemPlace} (h : Br φ H W) (hok : Value.okWide Tryz.prog W .any base 22 v) (ht : DataW.Trod enc Tryz.prog W 0 (fun _ => true) true 22 v d ps)
    (hw : (d.weights Tryz.prog 22).all (· ≤ reachBytes) = true) :
    ∃ φ' H' p n c xs, Br φ' H' W ∧ Ext φ φ' ∧ Kp [] H H' ∧ VR φ' (.slice p n c) v ∧ Ints H' p n c xs := by
  obtain ⟨q, m, e, rfl⟩ := okWide_slice Tryz.underlying22 hok
  obtain ⟨fuel, hf⟩ := ht
  obtain ⟨φ1, H1, p1, n1, c1, z1, g1, g2, g3, g4, g5, g6, -⟩ := h.ints Tryz.underlying22 Tryz.underlying3 cells_3 (by simpa [Value.cells] using hf) (cellOk_of Tryz.underlying22 hok) hw (by rw [bytes_3]; omega)
  exact ⟨φ1, H1, p1, n1, c1, z1, g1, g2, g3, g4, g5⟩

/-- A list of answers as an argument. -/
theorem Br.answers {v : Value} {d : DataW D} {ps : List MemPlace} (h : Br φ H W) (hok : Value.okWide Tryz.prog W .any base 23 v) (ht : DataW.Trod enc Tryz.prog W 0 (fun _ => true) true 23 v d ps)
    (hw : (d.weights Tryz.prog 23).all (· ≤ reachBytes) = true) :
    ∃ φ' H' p n c ys, Br φ' H' W ∧ Ext φ φ' ∧ Kp [] H H' ∧ VR φ' (.slice p n c) v ∧ Ls RAns 2 H' p n c ys := by
  obtain ⟨q, m, e, rfl⟩ := okWide_slice Tryz.underlying23 hok
  obtain ⟨fuel, hf⟩ := ht
  obtain ⟨φ1, H1, p1, n1, c1, z1, g1, g2, g3, g4, g5⟩ := h.pairs Tryz.underlying23 Tryz.underlying89 Tryz.underlying3 Tryz.underlying3 cells_89 cells_3 cells_3 rfl rfl (by simpa [Value.cells] using hf) (cellOk_of Tryz.underlying23 hok) hw (by rw [bytes_89]; omega)
  refine ⟨φ1, H1, p1, n1, c1, z1.map (fun z => ⟨z.1, z.2⟩), g1, g2, g3, g4, ⟨g5.nil, g5.bound, ?_⟩⟩
  obtain ⟨rows, a1, a2, a3, a4, a5⟩ := g5.is
  refine ⟨rows, a1, by simpa using a2, a3, fun i r x hr hx => ?_, a5⟩
  rw [List.getElem?_map] at hx
  obtain ⟨z, hz, rfl⟩ := Option.map_eq_some_iff.1 hx
  exact a4 i r z hr hz
end

theorem urg_lifted (os : Os) (started : os.Started) (D : Type) (enc : TypeId × Value → D) :
    ReturnsInHanded {} Tryz.checked os 3 .any (YtaehendkbicepaaGreat.Rows.systemUrgenciesSpec.pre6 enc Tryz.prog Tryz.f3 YtaehendkbicepaaGreat.Rows.systemUrgenciesRow.domain false) (YtaehendkbicepaaGreat.Rows.systemUrgenciesSpec.post enc Tryz.prog Tryz.f3 false true false false) := by
  refine returnsInHanded_of_change_sized (C := Tryz.checked) own_knob started (by kernel_rfl) Tryz.func3
    (ChangeSpec.witness6 (enc := enc) (C := Tryz.checked) false ⟨#[], #[.slice none 0 0, .slice none 0 0], []⟩ 8 (by kernel_rfl) (by kernel_rfl) (by kernel_rfl) (by kernel_rfl)) ?_
  intro W base args ds gs before hval0 hW hcnd hsz0 _
  have hsz : (DataW.weightsEach Tryz.prog (Tryz.f3.params.toList ++ YtaehendkbicepaaGreat.Rows.systemUrgenciesSpec.plain.varTypes Tryz.prog) (ds ++ gs)).all (· ≤ reachBytes) = true := hsz0
  have hval : ∀ (j : Nat) t v, Tryz.f3.params[j]? = some t → args[j]? = some v → Value.okWide Tryz.prog W .any base t v := hval0
  clear hsz0 hval0
  have hW' := hW
  obtain ⟨p, q, hA0, hV, rfl, -, -⟩ := hW
  have hA : DataW.TrodAll enc Tryz.prog W 0 (fun _ => true) true Tryz.f3.params.toList args.toList ds p := hA0
  rw [Tryz.params3] at hA hval hsz
  obtain ⟨v0, v1, d0, d1, p0, p1, rfl, rfl, rfl, h0, h1⟩ := trodAll_two hA
  obtain ⟨rfl, rfl⟩ := trodVars_none hV
  obtain ⟨φ1, H1, q1, n1, c1, xs, b1, x1, k1, r1, l1⟩ := (Br.nil W).deck (hval 0 22 v0 rfl rfl) h0 (all_each hsz (j := 0) rfl rfl)
  obtain ⟨φ2, H2, q2, n2, c2, ys, b2, x2, k2, r2, l2⟩ := b1.answers (hval 1 23 v1 rfl rfl) h1 (all_each hsz (j := 1) rfl rfl)
  refine law_post (fn := Tryz.f3) (s := YtaehendkbicepaaGreat.Rows.systemUrgenciesSpec) (tb := 4) laid_out ?_ (by kernel_rfl) Tryz.underlying4 rfl rfl hW' b2 (.cons (r1.ext x2) (.cons r2 .nil)) (c_SystemUrgencies (l1.kp0 k2) l2) (fun v H' h => h.1)
  rw [Tryz.params3]
  intro t ht
  simp only [List.mem_cons, List.not_mem_nil, or_false] at ht
  rcases ht with rfl | rfl <;> exact ⟨by kernel_rfl, of_decide_eq_true (by kernel_rfl)⟩

theorem urg_holds : YtaehendkbicepaaGreat.Rows.SystemUrgenciesSaid :=
  OpenClaim.holds_of_wide 3 Tryz.f3 rfl rfl rfl rfl rfl rfl rfl ⟨rfl, rfl, rfl, rfl, rfl⟩ rfl rfl rfl rfl rfl (by kernel_rfl) Tryz.func3 (by kernel_rfl)
    (of_decide_eq_true (by kernel_rfl)) (by unfold Func.isWrapper; first | (rw [if_pos (by decide +kernel)]; kernel_rfl) | (rw [if_neg (by decide +kernel)]; exact ⟨rfl, rfl⟩))
    (fun os started D enc _ => urg_lifted os started D enc)

end Go.Lg
