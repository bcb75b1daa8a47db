/- The statement of steps. No condition. -/
import Derived.Test.YtaehendkbicepaaC12
import Derived.Test.YtaehendkbicepaaC13
set_option linter.unusedVariables false
set_option maxRecDepth 100000
namespace Go.Lg
open Go Go.ChangeShapes Go.WideShapes Go.RowKit Go.Proofs

theorem steps_lifted (os : Os) (started : os.Started) (D : Type) (enc : TypeId × Value → D) :
    ReturnsInHanded {} Try.checked os 3 .any (Ytaehendkbicepaa.Rows.machineStepsSpec.pre6 enc Try.prog Try.f3 Ytaehendkbicepaa.Rows.machineStepsRow.domain false) (Ytaehendkbicepaa.Rows.machineStepsSpec.post enc Try.prog Try.f3 false true false false) := by
  refine returnsInHanded_of_change_sized (C := Try.checked) own_knob started (by kernel_rfl) Try.func3
    (ChangeSpec.witness6 (enc := enc) (C := Try.checked) false ⟨#[], #[.slice none 0 0, .int .u8 0], []⟩ 8 (by kernel_rfl) (by kernel_rfl) (by kernel_rfl) (by kernel_rfl)) ?_
  intro W base args ds gs before hval0 hW hcnd hsz0 _
  have hsz : (DataW.weightsEach Try.prog (Try.f3.params.toList ++ Ytaehendkbicepaa.Rows.machineStepsSpec.plain.varTypes Try.prog) (ds ++ gs)).all (· ≤ reachBytes) = true := hsz0
  have hval : ∀ (j : Nat) t v, Try.f3.params[j]? = some t → args[j]? = some v → Value.okWide Try.prog W .any base t v := hval0
  clear hsz0 hval0
  have hW' := hW
  obtain ⟨p, q, hA0, hV, rfl, -, -⟩ := hW
  have hA : DataW.TrodAll enc Try.prog W 0 (fun _ => true) true Try.f3.params.toList args.toList ds p := hA0
  rw [Try.params3] at hA hval hsz
  obtain ⟨v0, v1, d0, d1, p0, p1, rfl, rfl, rfl, h0, h1⟩ := trodAll_two hA
  obtain ⟨rfl, rfl⟩ := trodVars_none hV
  obtain ⟨k, rfl, rfl, rfl, hk⟩ := open_int Try.underlying5 (hval 1 5 v1 rfl rfl) h1
  have hk2 : 0 ≤ k ∧ k ≤ 255 := by
    simp only [Lit.wf, Bool.and_eq_true, decide_eq_true_eq] at hk
    exact hk
  obtain ⟨φ1, H1, q1, n1, c1, xs, b1, x1, k1, r1, l1⟩ := (Br.nil W).deck (hval 0 22 v0 rfl rfl) h0 (all_each hsz (j := 0) rfl rfl)
  refine law_post (fn := Try.f3) (s := Ytaehendkbicepaa.Rows.machineStepsSpec) (tb := 4) laid_out ?_ (by kernel_rfl) Try.underlying4 rfl rfl hW' b1 (.cons r1 (.cons (.int .u8 k) .nil)) (c_MachineSteps l1 l1.lt k hk2.1 hk2.2) (fun v H' h => h.1)
  rw [Try.params3]
  intro t ht
  simp only [List.mem_cons, List.not_mem_nil, or_false] at ht
  rcases ht with rfl | rfl <;> exact ⟨by kernel_rfl, of_decide_eq_true (by kernel_rfl)⟩

theorem steps_holds : Ytaehendkbicepaa.Rows.MachineStepsSaid :=
  OpenClaim.holds_of_wide 3 Try.f3 rfl rfl rfl rfl rfl rfl rfl ⟨rfl, rfl, rfl, rfl, rfl⟩ rfl rfl rfl rfl rfl (by kernel_rfl) Try.func3 (by kernel_rfl)
    (of_decide_eq_true (by kernel_rfl)) (by unfold Func.isWrapper; first | (rw [if_pos (by decide +kernel)]; kernel_rfl) | (rw [if_neg (by decide +kernel)]; exact ⟨rfl, rfl⟩))
    (fun os started D enc _ => steps_lifted os started D enc)

end Go.Lg
