/- The given program's law PagerFlips returns true for every input, and leaves its arguments as they were; no condition. -/
import Derived.Test.YtdinnkacilgmmaaLift3
import Derived.Test.YtdinnkacilgmmaaFacts
import Derived.Test.YtdinnkacilgmmaaFlips
namespace Go.Proofs.Ytdinnkacilgmmaa.pagerFlips
open Go.ChangeShapes Go.WideShapes Go.ChangeAt Go.RowKit
open Go.ChangeMaps (open_string shut_string)

set_option maxRecDepth 100000 in
theorem lifted (os : Os) (started : os.Started) (H : Type) (enc : TypeId × Value → H) :
    ReturnsInHanded {} Try.checked os 21 .any (Rows.pagerFlipsSpec.pre6 enc Try.prog Try.f21 Rows.pagerFlipsRow.domain false) (Rows.pagerFlipsSpec.post enc Try.prog Try.f21 false true false false) := by
  refine returnsInHanded_of_change_sized (C := Try.checked) own started (by kernel_rfl) Try.func21
    (ChangeSpec.witness6 (enc := enc) (C := Try.checked) false ⟨#[], #[.slice none 0 0, .slice none 0 0], []⟩ 8 (by kernel_rfl) (by kernel_rfl) (by kernel_rfl) (by kernel_rfl)) ?_
  intro W base args ds gs before hval0 hW hcnd hsz0 _
  have hval : ∀ (j : Nat) t v, Try.f21.params[j]? = some t → args[j]? = some v → Value.okWide Try.prog W .any base t v := hval0
  have hsz : (DataW.weightsEach Try.prog (Try.f21.params.toList ++ Rows.pagerFlipsSpec.plain.varTypes Try.prog) (ds ++ gs)).all (· ≤ reachBytes) = true := hsz0
  have hW' := hW
  obtain ⟨p, q, hA0, hV, rfl, hfz, hnd⟩ := hW
  have hA : DataW.TrodAll enc Try.prog W 0 (fun _ => true) true Try.f21.params.toList args.toList ds p := hA0
  rw [Try.params21] at hA hval hsz
  obtain ⟨v0, vs0, d0, ds0, p0, q0, hargs, rfl, rfl, h0, r0⟩ := trodAll_cons hA
  obtain ⟨v1, vs1, d1, ds1, p1, q1, rfl, rfl, rfl, h1, r1⟩ := trodAll_cons r0
  obtain ⟨rfl, rfl, rfl⟩ := trodAll_nil r1
  obtain rfl : args = #[v0, v1] := by cases args; simp_all
  obtain ⟨rfl, rfl⟩ := trodVars_none hV
  obtain ⟨l0, o0⟩ := rd_ops5 (okWide_slice Try.underlying92 (hval 0 92 v0 rfl rfl)) h0 (weights_of hsz (j := 0) rfl rfl)
  obtain ⟨l1, o1⟩ := rd_ints (okWide_slice Try.underlying39 (hval 1 39 v1 rfl rfl)) h1 (weights_of hsz (j := 1) rfl rfl)
  clear hA0 hval0
  refine (flips_all W o0 o1).mono fun e W' ⟨he, bel⟩ => ?_
  subst he
  exact ⟨_, rfl, _, _, _, [], _, [], hW', trodAll_mk1 (shut_bool Try.underlying4 _), (trodAll_cons_mk (Below.trod laidOut (by kernel_rfl) (of_decide_eq_true (by kernel_rfl)) h0 bel (trod_lt' h0)) (trodAll_cons_mk (Below.trod laidOut (by kernel_rfl) (of_decide_eq_true (by kernel_rfl)) h1 bel (trod_lt' h1)) trodAll_mk0)), rfl, bel.frame _, fun h => by cases h⟩

theorem closed : joinedFacts Try.prog 21 Try.f21 Rows.pagerFlipsSpec Rows.pagerFlipsRow = true := by
  unfold joinedFacts
  rw [Facts.enter, Facts.final, Facts.made]
  kernel_rfl
theorem named : Try.pinned.checked.prog.funcNamed Rows.pagerFlipsRow.func = some 21 := by kernel_rfl
theorem inst : Try.f21.isInstance Try.pinned.checked.prog Rows.pagerFlipsRow.origin Rows.pagerFlipsRow.targs := of_decide_eq_true (by kernel_rfl)
theorem wrap : Try.f21.isWrapper Try.pinned.checked.prog Rows.pagerFlipsRow.wrapper Rows.pagerFlipsRow.mainSum := by unfold Func.isWrapper; rw [if_neg (of_decide_eq_false (by kernel_rfl))]; exact ⟨rfl, rfl⟩
theorem over : Rows.pagerFlipsRow.holds Try.pinned (OpenSpec.ofChange Rows.pagerFlipsSpec) :=
  OpenClaim.holds_of_wide 21 Try.f21 rfl rfl rfl rfl rfl rfl rfl ⟨rfl, rfl, rfl, rfl, rfl⟩ rfl rfl rfl rfl rfl named Try.func21 closed inst wrap
    (fun os started H enc _ => lifted os started H enc)

theorem proved : Rows.PagerFlipsSaid := over
#print axioms proved
end Go.Proofs.Ytdinnkacilgmmaa.pagerFlips
