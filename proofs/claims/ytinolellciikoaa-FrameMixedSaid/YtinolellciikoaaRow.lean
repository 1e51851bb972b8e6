/- What a statement's row hands over, as the contracts take it. Conditions: those that each lemma names. -/
import Derived.Test.YtinolellciikoaaByte
import Derived.Test.YtinolellciikoaaOpen
import Derived.ProofKit
import Derived.OpenShut
import Derived.ShutString
import Derived.ChangeOld
import Derived.Below
import Derived.SizedLaws
namespace Go.Vc
open Go Go.ChangeShapes Go.WideShapes Go.ChangeAt Go.RowKit

theorem CallT.row {P : Program} {f : FuncId} {args : List Value} {w : World} (h : CallT [.one .bool] P f args w fun r w' => r = true ∧ Ext w w') :
    Calls P f args.toArray w fun e w' => e = .returned (.bool true) ∧ Below w.heap.size w w' :=
  h.2.mono fun _ _ ⟨_, he, hr, hu⟩ => ⟨by rw [he, hr], hu.below⟩
theorem wf_range {k : IntKind} {x : Int} (h : (Lit.int k x).wf = true) : k.min ≤ x ∧ x ≤ k.max := by simpa [Lit.wf] using h
theorem wf_u64 {x : Int} (h : (Lit.int .u64 x).wf = true) : ∃ n : Nat, x = n ∧ n < 2 ^ 64 := by
  have h := wf_range h
  have h1 : IntKind.u64.min = 0 := rfl
  have h2 : IntKind.u64.max = 18446744073709551615 := rfl
  exact ⟨x.toNat, by omega, by omega⟩
theorem wf_u32 {x : Int} (h : (Lit.int .u32 x).wf = true) : ∃ n : Nat, x = n ∧ n < 2 ^ 32 := by
  have h := wf_range h
  have h1 : IntKind.u32.min = 0 := rfl
  have h2 : IntKind.u32.max = 4294967295 := rfl
  exact ⟨x.toNat, by omega, by omega⟩
theorem wf_u8 {x : Int} (h : (Lit.int .u8 x).wf = true) : ∃ n : Nat, x = n ∧ n < 256 := by
  have h := wf_range h
  have h1 : IntKind.u8.min = 0 := rfl
  have h2 : IntKind.u8.max = 255 := rfl
  exact ⟨x.toNat, by omega, by omega⟩
theorem wf_i64 {x : Int} (h : (Lit.int .i64 x).wf = true) : -9223372036854775808 ≤ x ∧ x ≤ 9223372036854775807 := by
  have h := wf_range h
  have h1 : IntKind.i64.min = -9223372036854775808 := rfl
  have h2 : IntKind.i64.max = 9223372036854775807 := rfl
  omega

/-- A slice of whole numbers that came in: nil, or a row of cap cells. -/
def IsRow (k : IntKind) (N : Nat) (w : World) (a : Option Addr) (len cap : Nat) (zs : List Int) : Prop :=
  (a = none ∧ len = 0 ∧ cap = 0 ∧ zs = []) ∨
  ∃ x, a = some x ∧ len ≤ cap ∧ cap ≤ N ∧ zs.length = cap ∧ (∀ i, i < zs.length → w.cell? (x.add i) = some (.int k (zs.getD i 0))) ∧ ∀ n ∈ zs, (Lit.int k n).wf = true
theorem open_row {H : Type} {enc : TypeId × Value → H} {P : Program} {w : World} {t e : TypeId} {k : IntKind} {N len cap : Nat} {a : Option Addr} {d : DataW H} {p : List MemPlace} {B : Nat}
    (ht : P.underlying t = some (.slice e)) (he : P.underlying e = some (.int k)) (hc : P.cellsOf e = 1)
    (h : DataW.Trod enc P w B (fun _ => true) true t (.slice a len cap) d p) (hs : ∀ elems spare, d = .slice elems spare → elems.length + spare.length ≤ N) :
    ∃ zs, IsRow k N w a len cap zs := by
  obtain ⟨fuel, hf⟩ := h
  rcases open_ints ht he hc hf with ⟨hcs, _⟩ | ⟨x, l, c, zs, hcs, _, hl, hm, hz, hd, hcell, hwz⟩
  · simp [Value.cells] at hcs
    obtain ⟨rfl, rfl, rfl⟩ := hcs
    exact ⟨[], .inl ⟨rfl, rfl, rfl, rfl⟩⟩
  · simp [Value.cells] at hcs
    obtain ⟨rfl, rfl, rfl⟩ := hcs
    obtain ⟨hd, _⟩ := Prod.mk.inj hd
    have hsz := hs _ _ hd
    have hz : zs.length = cap := by simpa using hz
    simp only [lits, List.length_map, List.length_take, List.length_drop, hz] at hsz
    exact ⟨zs, .inr ⟨_, rfl, hl, by omega, hz, hcell, hwz⟩⟩
/-- The reach's bound. -/
theorem reach_le {n bt b : Nat} (h : n * b ≤ reachBytes) (hb : b = bt) (h0 : 0 < bt) : n ≤ 140737488351232 / bt := by
  subst hb
  exact (Nat.le_div_iff_mul_le h0).2 h
theorem IsRow.bytes {w : World} {a : Option Addr} {len cap : Nat} {zs : List Int} {N : Nat} (h : IsRow .u8 N w a len cap zs) :
    ∃ l : List UInt8, Go.Proofs.RdB w ⟨a, len, cap⟩ l ∧ len ≤ cap ∧ cap ≤ N := by
  rcases h with ⟨rfl, rfl, rfl, rfl⟩ | ⟨x, rfl, hl, hc, hz, hcell, hw⟩
  · exact ⟨[], Rd.nil' _ _ _, Nat.le_refl _, Nat.zero_le _⟩
  · have hlen : (zs.take len).length = len := by simp; omega
    refine ⟨(zs.take len).map fun z => UInt8.ofNat z.toNat, ⟨?_, fun h => by simp at h, ?_⟩, hl, hc⟩
    · rw [Go.Proofs.B8_length, List.length_map, hlen, Nat.mul_one]
    · intro A hA j v hv
      obtain rfl := Option.some.inj hA
      have hj : j < len := by
        have := (List.getElem?_eq_some_iff.1 hv).1
        rw [Go.Proofs.B8_length, List.length_map, hlen] at this; exact this
      have hjz : j < zs.length := by omega
      rw [hcell j hjz]
      obtain ⟨n, hn, hn2⟩ := wf_u8 (hw _ (List.getElem_mem hjz))
      simp only [Go.Proofs.B8, List.map_map, List.getElem?_map, List.getElem?_take, hj, if_true, List.getElem?_eq_getElem hjz, Option.map_some, Option.some.injEq, Function.comp] at hv
      rw [← hv]
      simp only [List.getD, List.getElem?_eq_getElem hjz, Option.getD_some, hn, Int.toNat_natCast]
      congr 2
      simp
      omega
end Go.Vc
