/- What the bound of an Upto statement gives. Conditions: those that each lemma names. -/
import Derived.Test.YtbnnpnillppdhaaRows
import Derived.Test.YtbnnpnillppdhaaRow
import Derived.JoinedCond
import Derived.Deep.CondSized
namespace Go.Vc
open Go Go.Proofs.Ytbnnpnillppdhaa
theorem bulk_one_le {H : Type} (d : DataW H) : 1 ≤ Rows.uptoBulk d := by
  cases d with
  | lit l => cases l <;> simp [Rows.uptoBulk]
  | nil => simp [Rows.uptoBulk]
  | ptr d => simp [Rows.uptoBulk]
  | slice elems spare => simp [Rows.uptoBulk]
  | agg parts => simp [Rows.uptoBulk]
  | iface t d => simp [Rows.uptoBulk]
  | map entries => simp [Rows.uptoBulk]
  | held h => simp [Rows.uptoBulk]
theorem bulk_part_le {H : Type} {d : DataW H} {l : List (DataW H)} (h : d ∈ l) : Rows.uptoBulk d ≤ Rows.uptoBulkAll l := by
  induction l with
  | nil => cases h
  | cons x r ih =>
    simp only [Rows.uptoBulkAll]
    cases List.mem_cons.1 h with
    | inl e => subst e; omega
    | inr e => have := ih e; omega
theorem bulk_length_le {H : Type} (l : List (DataW H)) : l.length ≤ Rows.uptoBulkAll l := by
  induction l with
  | nil => simp [Rows.uptoBulkAll]
  | cons x r ih => have := bulk_one_le x; simp only [Rows.uptoBulkAll, List.length_cons]; omega
theorem bulk_slice {H : Type} {elems spare : List (DataW H)} {l : List (DataW H)} (hk : Rows.uptoSmall H l = true) (h : DataW.slice elems spare ∈ l) : elems.length + spare.length ≤ 1048576 := by
  have h0 : Rows.uptoBulkAll l ≤ 1048576 := of_decide_eq_true hk
  have h1 := bulk_part_le h
  have h2 := bulk_length_le elems
  have h3 := bulk_length_le spare
  simp only [Rows.uptoBulk] at h1
  omega
def bdUpto : TypeId → Nat → Prop := fun _ n => n ≤ 1048576
def bsUpto : Nat → Prop := fun n => n ≤ 1048576
def uptoBds (H : Type) (P : Program) : Bds H P bdUpto bsUpto where
  ok _ d := Rows.uptoBulk d ≤ 1048576
  slice t e es sp hu h := by
    have h2 := bulk_length_le es
    have h3 := bulk_length_le sp
    simp only [Rows.uptoBulk] at h
    refine ⟨by unfold bdUpto; omega, fun d hd => ?_⟩
    rcases List.mem_append.1 hd with h1 | h1
    · have := bulk_part_le h1; omega
    · have := bulk_part_le h1; omega
  struct t fs parts hu h i f d hf hd := by
    have h1 := bulk_part_le (List.mem_of_getElem? hd)
    simp only [Rows.uptoBulk] at h
    omega
  str t s h := by
    simp only [Rows.uptoBulk] at h
    unfold bsUpto; omega
theorem upto_ok {H : Type} {P : Program} {l : List (DataW H)} {t : TypeId} {d : DataW H} (hk : Rows.uptoSmall H l = true) (h : d ∈ l) : (uptoBds H P).ok t d := by
  have h0 : Rows.uptoBulkAll l ≤ 1048576 := of_decide_eq_true hk
  have h1 := bulk_part_le h
  show Rows.uptoBulk d ≤ 1048576
  omega
end Go.Vc
