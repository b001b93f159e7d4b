/- The given program's law PagerSteady returns true for every input, and leaves its arguments as they were; no condition. -/
import Derived.Test.YtdinnkacilgmmaaLift
import Derived.Test.YtdinnkacilgmmaaFacts
import Derived.Test.YtdinnkacilgmmaaSteady
namespace Go.Proofs.Ytdinnkacilgmmaa.pagerSteady
open Go.ChangeShapes Go.WideShapes Go.ChangeAt Go.RowKit
open Go.ChangeMaps (open_string shut_string)

set_option maxRecDepth 100000 in
theorem lifted (os : Os) (started : os.Started) (H : Type) (enc : TypeId × Value → H) :
    ReturnsInHanded {} Try.checked os 20 .any (Rows.pagerSteadySpec.pre6 enc Try.prog Try.f20 Rows.pagerSteadyRow.domain false) (Rows.pagerSteadySpec.post enc Try.prog Try.f20 false true false false) := by
  refine returnsInHanded_of_change_sized (C := Try.checked) own started (by kernel_rfl) Try.func20
    (ChangeSpec.witness6 (enc := enc) (C := Try.checked) false ⟨#[], #[.slice none 0 0, .slice none 0 0], []⟩ 8 (by kernel_rfl) (by kernel_rfl) (by kernel_rfl) (by kernel_rfl)) ?_
  intro W base args ds gs before hval0 hW hcnd hsz0 _
  have hval : ∀ (j : Nat) t v, Try.f20.params[j]? = some t → args[j]? = some v → Value.okWide Try.prog W .any base t v := hval0
  have hsz : (DataW.weightsEach Try.prog (Try.f20.params.toList ++ Rows.pagerSteadySpec.plain.varTypes Try.prog) (ds ++ gs)).all (· ≤ reachBytes) = true := hsz0
  have hW' := hW
  obtain ⟨p, q, hA0, hV, rfl, hfz, hnd⟩ := hW
  have hA : DataW.TrodAll enc Try.prog W 0 (fun _ => true) true Try.f20.params.toList args.toList ds p := hA0
  rw [Try.params20] at hA hval hsz
  obtain ⟨v0, vs0, d0, ds0, p0, q0, hargs, rfl, rfl, h0, r0⟩ := trodAll_cons hA
  obtain ⟨v1, vs1, d1, ds1, p1, q1, rfl, rfl, rfl, h1, r1⟩ := trodAll_cons r0
  obtain ⟨rfl, rfl, rfl⟩ := trodAll_nil r1
  obtain rfl : args = #[v0, v1] := by cases args; simp_all
  obtain ⟨rfl, rfl⟩ := trodVars_none hV
  obtain ⟨l0, o0⟩ := rd_byteses (okWide_slice Try.underlying66 (hval 0 66 v0 rfl rfl)) h0 (weights_of hsz (j := 0) rfl rfl)
  obtain ⟨l1, o1⟩ := rd_ops5 (okWide_slice Try.underlying92 (hval 1 92 v1 rfl rfl)) h1 (weights_of hsz (j := 1) rfl rfl)
  clear hA0 hval0
  refine (steady_all W o0 o1).mono fun e W' ⟨he, bel⟩ => ?_
  subst he
  exact ⟨_, rfl, _, _, _, [], _, [], hW', trodAll_mk1 (shut_bool Try.underlying4 _), (trodAll_cons_mk (Below.trod laidOut (by kernel_rfl) (of_decide_eq_true (by kernel_rfl)) h0 bel (trod_lt' h0)) (trodAll_cons_mk (Below.trod laidOut (by kernel_rfl) (of_decide_eq_true (by kernel_rfl)) h1 bel (trod_lt' h1)) trodAll_mk0)), rfl, bel.frame _, fun h => by cases h⟩

theorem closed : joinedFacts Try.prog 20 Try.f20 Rows.pagerSteadySpec Rows.pagerSteadyRow = true := by
  unfold joinedFacts
  rw [Facts.enter, Facts.final, Facts.made]
  kernel_rfl
theorem named : Try.pinned.checked.prog.funcNamed Rows.pagerSteadyRow.func = some 20 := by kernel_rfl
theorem inst : Try.f20.isInstance Try.pinned.checked.prog Rows.pagerSteadyRow.origin Rows.pagerSteadyRow.targs := of_decide_eq_true (by kernel_rfl)
theorem wrap : Try.f20.isWrapper Try.pinned.checked.prog Rows.pagerSteadyRow.wrapper Rows.pagerSteadyRow.mainSum := by unfold Func.isWrapper; rw [if_neg (of_decide_eq_false (by kernel_rfl))]; exact ⟨rfl, rfl⟩
theorem over : Rows.pagerSteadyRow.holds Try.pinned (OpenSpec.ofChange Rows.pagerSteadySpec) :=
  OpenClaim.holds_of_wide 20 Try.f20 rfl rfl rfl rfl rfl rfl rfl ⟨rfl, rfl, rfl, rfl, rfl⟩ rfl rfl rfl rfl rfl named Try.func20 closed inst wrap
    (fun os started H enc _ => lifted os started H enc)

theorem proved : Rows.PagerSteadySaid := over
#print axioms proved
end Go.Proofs.Ytdinnkacilgmmaa.pagerSteady
