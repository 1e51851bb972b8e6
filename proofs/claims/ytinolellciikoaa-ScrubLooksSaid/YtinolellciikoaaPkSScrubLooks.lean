/- dunnage: 'dunnage/dunnagelaw29.ScrubLooks' answers true for every input, and each argument reads behind the call as it did ahead of it. Conditions: the statement's own. -/
import Derived.Below
import Derived.ChangeOld
import Derived.Deep.Quiet
import Derived.KernelRfl
import Derived.Laws.Cells
import Derived.Laws.Entries
import Derived.Laws.Sem
import Derived.Laws.Strings
import Derived.Laws.World
import Derived.Lib.SlBytesConst
import Derived.OpenShut
import Derived.Orders
import Derived.OrdersHeld
import Derived.ProofKit
import Derived.ShutString
import Derived.SizedLaws
import Derived.StillTail
import Derived.Tactics
import Derived.Test.YtinolellciikoaaProg
import Derived.Test.YtinolellciikoaaRows
import Derived.Test.YtinolellciikoaaPkS4
namespace Go.Proofs.Ytinolellciikoaa.scrubLooks
open Go Go.Vc Go.ChangeShapes Go.WideShapes Go.ChangeAt Go.RowKit
open Go.ChangeMaps (open_string shut_string)
set_option linter.unusedVariables false

theorem own : ownKnob Try.prog.godebug = none := by kernel_rfl
theorem laidOut : laidOutB Try.prog = true := fLaid

theorem walk (a0 : Option Addr) (len0 cap0 : Nat) (a1 : Int) (a2 : Int) (w : World) (w0 : DS.rel w (bdReach Try.prog) bsReach (.slice 115 5 (.struct (.cons 0 1 (.int .i64) (.cons 1 1 (.int .i64) (.cons 2 1 .bool (.cons 3 1 (.int .u8) (.cons 4 1 (.slice 5 1 (.int .u8)) .nil))))))) [.slice a0 len0 cap0]) (w1 : (Lit.int .i64 a1).wf = true) (w2 : (Lit.int .i64 a2).wf = true) :
    Calls Try.prog 19 #[.slice a0 len0 cap0, .int .i64 a1, .int .i64 a2] w fun e w' => e = .returned (.bool true) ∧ Below w.heap.size w w' := by
  have b1 := wf_i64 w1
  have b2 := wf_i64 w2
  exact CallT.row (dunnagelaw29_ScrubLooks.row w0 b1 b2)

set_option maxRecDepth 100000 in
theorem lifted (os : Os) (started : os.Started) (H : Type) (enc : TypeId × Value → H) :
    ReturnsInHanded {} Try.checked os 19 .any (Rows.scrubLooksSpec.pre6 enc Try.prog Try.f19 Rows.scrubLooksRow.domain false) (Rows.scrubLooksSpec.post enc Try.prog Try.f19 false true false false) := by
  refine returnsInHanded_of_change_sized (C := Try.checked) own started (by kernel_rfl) Try.func19
    (ChangeSpec.witness6 (enc := enc) (C := Try.checked) false ⟨#[], #[.slice none 0 0, .int .i64 0, .int .i64 0], []⟩ 8 (by kernel_rfl) (by kernel_rfl) (by kernel_rfl) (by kernel_rfl)) ?_
  intro W base args ds gs before hval0 hW hcnd hsz0 _
  have hsz : (DataW.weightsEach Try.prog (Try.f19.params.toList ++ Rows.scrubLooksSpec.plain.varTypes Try.prog) (ds ++ gs)).all (· ≤ reachBytes) = true := hsz0
  clear hsz0
  have hval : ∀ (j : Nat) t v, Try.f19.params[j]? = some t → args[j]? = some v → Value.okWide Try.prog W .any base t v := hval0
  have hW' := hW
  obtain ⟨p, q, hA0, hV, rfl, hfz, hnd⟩ := hW
  have hA : DataW.TrodAll enc Try.prog W 0 (fun _ => true) true Try.f19.params.toList args.toList ds p := hA0
  rw [Try.params19] at hA hval hsz
  obtain ⟨v0, vs0, d0, ds0, p0, q0, hargs, rfl, rfl, h0, r0⟩ := trodAll_cons hA
  obtain ⟨v1, vs1, d1, ds1, p1, q1, rfl, rfl, rfl, h1, r1⟩ := trodAll_cons r0
  obtain ⟨v2, vs2, d2, ds2, p2, q2, rfl, rfl, rfl, h2, r2⟩ := trodAll_cons r1
  obtain ⟨rfl, rfl, rfl⟩ := trodAll_nil r2
  obtain rfl : args = #[v0, v1, v2] := by cases args; simp_all
  obtain ⟨rfl, rfl⟩ := trodVars_none hV
  obtain ⟨a0, len0, cap0, rfl⟩ := okWide_slice Try.underlying106 (hval 0 106 v0 rfl rfl)
  have k0 := h0
  have lt0 : ∀ x ∈ p0, x.block < W.heap.size := by obtain ⟨m, hm⟩ := k0; exact DataW.trod_lt m _ _ _ hm
  have w0 := DS.open_ (reachBds H Try.prog) (.slice 115 5 (.struct (.cons 0 1 (.int .i64) (.cons 1 1 (.int .i64) (.cons 2 1 .bool (.cons 3 1 (.int .u8) (.cons 4 1 (.slice 5 1 (.int .u8)) .nil))))))) (by kernel_rfl) h0 (weights_ok hsz (j := 0) rfl rfl)
  obtain ⟨a1, rfl, rfl, rfl, w1⟩ := open_int Try.underlying3 (hval 1 3 v1 rfl rfl) h1
  obtain ⟨a2, rfl, rfl, rfl, w2⟩ := open_int Try.underlying3 (hval 2 3 v2 rfl rfl) h2
  clear hA0 hval0
  refine (walk a0 len0 cap0 a1 a2 W w0 w1 w2).mono fun e W' ⟨he, bel⟩ => ?_
  subst he
  exact ⟨_, rfl, _, _, _, [], _, [], hW', trodAll_mk1 (shut_bool Try.underlying4 _), (trodAll_cons_mk (Below.trod laidOut (by kernel_rfl) (of_decide_eq_true (by kernel_rfl)) k0 bel lt0) (trodAll_cons_mk (shut_int Try.underlying3 w1) (trodAll_cons_mk (shut_int Try.underlying3 w2) trodAll_mk0))), rfl, bel.frame _, fun h => by cases h⟩

set_option maxHeartbeats 4000000 in
theorem facts : joinedFacts Try.prog 19 Try.f19 Rows.scrubLooksSpec Rows.scrubLooksRow = true := by
  simp only [joinedFacts, Bool.and_eq_true]
  repeat' apply And.intro
  all_goals first | (with_reducible exact fEnter) | (with_reducible exact fLaid) | (with_reducible exact fMaps) | (with_reducible exact fHeard) | (rw [fKeys]; kernel_rfl) | (rw [fLifts]; kernel_rfl) | (rw [fMake]; kernel_rfl) | as_aux_lemma => kernel_rfl

theorem over : Rows.scrubLooksRow.holds Try.pinned (OpenSpec.ofChange Rows.scrubLooksSpec) :=
  OpenClaim.holds_of_wide 19 Try.f19 rfl rfl rfl rfl rfl rfl rfl ⟨rfl, rfl, rfl, rfl, rfl⟩ rfl rfl rfl rfl rfl (by kernel_rfl) Try.func19 facts
    (of_decide_eq_true (by kernel_rfl)) (by unfold Func.isWrapper; first | (rw [if_pos (by decide +kernel)]; kernel_rfl) | (rw [if_neg (by decide +kernel)]; exact ⟨rfl, rfl⟩))
    (fun os started H enc _ => lifted os started H enc)

theorem proved : Rows.ScrubLooksSaid := over
end Go.Proofs.Ytinolellciikoaa.scrubLooks

