/- The walk of dunnagelaw26.ForwardBoth as its row takes it. Conditions: what came in is small. -/
import Derived.Test.YtdldamlephggmaaFwd
import Derived.Test.YtdldamlephggmaaBulk
namespace Go.Proofs
open Go Go.Vc
abbrev dsMoves : DS := .slice T.api_Move 4 (.struct (.cons 0 1 (.int .u64) (.cons 1 1 (.int .i64) (.cons 2 1 (.int .i64) (.cons 3 1 (.int .i64) .nil)))))
theorem moves_upto {w : World} {a : Option Addr} {len cap : Nat} (h : DS.rel w bdUpto bsUpto dsMoves [.slice a len cap]) : ∃ l : List Mv, RdM w ⟨a, len, cap⟩ l ∧ l.length ≤ 1048576 := by
  obtain ⟨l, h1, h2, h3⟩ := rel_moves h
  refine ⟨l, h1, ?_⟩
  have := h1.len
  rcases h3 with h3 | h3
  · simp only at this; omega
  · unfold bdUpto at h3; simp only at this; omega
theorem dunnagelaw26_ForwardBoth.row {w : World} {a0 a1 : Option Addr} {len0 cap0 len1 cap1 n : Nat} {at_ : Int} (h0 : DS.rel w bdUpto bsUpto dsMoves [.slice a0 len0 cap0]) (h1 : DS.rel w bdUpto bsUpto dsMoves [.slice a1 len1 cap1]) :
    CallT [.one .bool] Try.prog F.dunnagelaw26_ForwardBoth [.slice a0 len0 cap0, .slice a1 len1 cap1, .int .u64 n, .int .i64 at_] w fun r w' => r = true ∧ Ext w w' := by
  obtain ⟨l, hl, hl'⟩ := moves_upto h0
  obtain ⟨k, hk, hk'⟩ := moves_upto h1
  exact dunnagelaw26_ForwardBoth.spec hl hk hl' hk' n at_
end Go.Proofs
