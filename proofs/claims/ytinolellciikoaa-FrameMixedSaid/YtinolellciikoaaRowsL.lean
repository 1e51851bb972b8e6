/- Slices of texts: what reads as so many texts. Conditions: those that each lemma names. -/
import Derived.Test.YtinolellciikoaaRows4
import Derived.Test.YtinolellciikoaaByte
namespace Go.Proofs
open Go Go.Vc
@[reducible] def encSV (s : SV) : List Value := [.slice s.a s.len s.cap]
@[reducible] def encTx (p : SV × List UInt8) : List Value := encSV p.1
/-- A slice that reads as these texts. -/
def RdL (w : World) (s : SV) (l : List (List UInt8)) : Prop := ∃ ps : List (SV × List UInt8), RdS encTx 1 w s ps ∧ ps.map Prod.snd = l ∧ ∀ p ∈ ps, RdB w p.1 p.2
theorem RdL.len {w : World} {s : SV} {l : List (List UInt8)} (h : RdL w s l) : s.len = l.length := by
  obtain ⟨ps, h1, rfl, _⟩ := h
  rw [h1.len, List.length_map]
theorem RdL.ext {w w' : World} {s : SV} {l : List (List UInt8)} (h : RdL w s l) (hu : Ext w w') : RdL w' s l := by
  obtain ⟨ps, h1, h2, h3⟩ := h
  exact ⟨ps, h1.ext hu, h2, fun p hp => (h3 p hp).ext hu⟩
/-- An element of it. -/
theorem RdL.at_ {w : World} {s : SV} {l : List (List UInt8)} (h : RdL w s l) {i : Nat} {x : List UInt8} (hx : l[i]? = some x) {K : Addr → Prop}
    (hk : ∀ A t, s.a = some A → w.cell? (A.add (i * 1)) = some (.slice t.a t.len t.cap) → RdB w t x → K A) : onP s.a K := by
  obtain ⟨ps, h1, rfl, h3⟩ := h
  rw [List.getElem?_map] at hx
  cases hp : ps[i]? with
  | none => rw [hp] at hx; simp at hx
  | some p =>
    rw [hp] at hx
    obtain rfl := Option.some.inj hx
    refine h1.get (i := i) (List.getElem?_eq_some_iff.1 hp).1 fun A hA => hk A p.1 hA ?_ (h3 p (List.mem_of_getElem? hp))
    exact h1.fld hp hA (k := 0) rfl
theorem B8_flat (l : List UInt8) : (l.flatMap fun b => [Value.int .u8 b.toNat]) = B8 l := by
  induction l with
  | nil => rfl
  | cons x r ih => rw [List.flatMap_cons, ih]; rfl
theorem bytes_rel {w : World} {bd : TypeId → Nat → Prop} {bs : Nat → Prop} {e : TypeId} {a : Option Addr} {len cap : Nat} (h : DS.rel w bd bs (.slice e 1 (.int .u8)) [.slice a len cap]) :
    ∃ l : List UInt8, RdB w ⟨a, len, cap⟩ l ∧ len ≤ cap ∧ (cap = 0 ∨ bd e cap) := by
  have key : ∀ es : List Value, es.length = 1 → DS.rel w bd bs (.int .u8) es → ∃ x : UInt8, [Value.int .u8 x.toNat] = es ∧ True := by
    intro es hl hr
    obtain ⟨n, rfl, hw⟩ := hr
    have hb : IntKind.u8.min ≤ n ∧ n ≤ IntKind.u8.max := by simpa [Lit.wf] using hw
    have h0 : 0 ≤ n := hb.1
    have h1 : n ≤ 255 := hb.2
    refine ⟨UInt8.ofNat n.toNat, ?_, trivial⟩
    have : (UInt8.ofNat n.toNat).toNat = n.toNat := by simp; omega
    rw [this]; congr 2; omega
  obtain ⟨l, h1, h2, h3, _⟩ := DS.flat (enc := fun b : UInt8 => [Value.int .u8 b.toNat]) (fun _ => True) h (fun _ => rfl) (by decide) key
  refine ⟨l, ?_, h2, h3⟩
  have := h1.rd
  rwa [B8_flat] at this
theorem lists_rel {w : World} {bd : TypeId → Nat → Prop} {bs : Nat → Prop} {e e' : TypeId} {a : Option Addr} {len cap : Nat} (h : DS.rel w bd bs (.slice e' 1 (.slice e 1 (.int .u8))) [.slice a len cap]) :
    ∃ l : List (List UInt8), RdL w ⟨a, len, cap⟩ l ∧ len ≤ cap ∧ (cap = 0 ∨ bd e' cap) ∧ ∀ x ∈ l, x = [] ∨ ∃ n, x.length ≤ n ∧ bd e n := by
  have key : ∀ es : List Value, es.length = 1 → DS.rel w bd bs (.slice e 1 (.int .u8)) es → ∃ p : SV × List UInt8, encTx p = es ∧ (RdB w p.1 p.2 ∧ (p.2 = [] ∨ ∃ n, p.2.length ≤ n ∧ bd e n)) := by
    intro es hl hr
    have hr0 := hr
    obtain ⟨a', len', cap', rfl, _⟩ := hr
    obtain ⟨l, h1, h2, h3⟩ := bytes_rel hr0
    have hl : len' = l.length := h1.lenB
    refine ⟨(⟨a', len', cap'⟩, l), rfl, h1, ?_⟩
    rcases h3 with h3 | h3
    · exact .inl (List.eq_nil_of_length_eq_zero (by dsimp only; omega))
    · exact .inr ⟨cap', by simp only; omega, h3⟩
  obtain ⟨ps, h1, h2, h3, h4⟩ := DS.flat (enc := encTx) (fun p => RdB w p.1 p.2 ∧ (p.2 = [] ∨ ∃ n, p.2.length ≤ n ∧ bd e n)) h (fun _ => rfl) (by decide) key
  refine ⟨ps.map Prod.snd, ⟨ps, h1, rfl, fun p hp => (h4 p hp).1⟩, h2, h3, fun x hx => ?_⟩
  obtain ⟨p, hp, rfl⟩ := List.mem_map.1 hx
  exact (h4 p hp).2
end Go.Proofs
