/- A block of one's own with spare room; an append that has room; parts exchanged. Conditions: those that each lemma names. -/
import Derived.Test.YtinolellciikoaaMem2
namespace Go.Vc
open Go
/-- A block of one's own, from B on: the slice's elements, and what stands in its spare room. -/
structure Spare (w : World) (B : Nat) (T : TypeId) (sz : Nat) (s : SV) (b : Nat) (cs rest : List Value) : Prop where
  a : s.a = some ⟨b, 0, none⟩
  ge : B ≤ b
  blk : w.heap[b]? = some (.cells (cs ++ rest).toArray T (0, 0))
  len : cs.length = s.len * sz
  cap : (cs ++ rest).length = s.cap * sz
theorem Spare.own {w : World} {B : Nat} {T : TypeId} {sz : Nat} {s : SV} {b : Nat} {cs rest : List Value} (h : Spare w B T sz s b cs rest) (hle : s.len ≤ s.cap) : Own w B T sz s cs :=
  ⟨h.len, .inr ⟨b, rest, h.a, h.ge, h.blk, h.cap, hle⟩⟩
theorem Spare.rd {w : World} {B : Nat} {T : TypeId} {sz : Nat} {s : SV} {b : Nat} {cs rest : List Value} (h : Spare w B T sz s b cs rest) : Rd w sz s cs :=
  ⟨h.len, fun hn => by rw [h.a] at hn; simp at hn, fun A hA => by
    rw [h.a] at hA
    obtain rfl := Option.some.inj hA
    refine cellsAt_blk h.blk fun j v hv => ?_
    have : j < cs.length := (List.getElem?_eq_some_iff.1 hv).1
    simp [List.getElem?_append_left this, hv]⟩
theorem Spare.upd {M : Nat → Prop} {w w' : World} {B : Nat} {T : TypeId} {sz : Nat} {s : SV} {b : Nat} {cs rest : List Value} (h : Spare w B T sz s b cs rest) (hu : Upd M w w') (hm : ¬ M b) : Spare w' B T sz s b cs rest :=
  ⟨h.a, h.ge, hu.get h.blk hm, h.len, h.cap⟩
theorem Spare.ext {w w' : World} {B : Nat} {T : TypeId} {sz : Nat} {s : SV} {b : Nat} {cs rest : List Value} (h : Spare w B T sz s b cs rest) (hu : Ext w w') : Spare w' B T sz s b cs rest := h.upd hu id
theorem Spare.lt {w : World} {B : Nat} {T : TypeId} {sz : Nat} {s : SV} {b : Nat} {cs rest : List Value} (h : Spare w B T sz s b cs rest) : b < w.heap.size := lt_of_blk h.blk
theorem Spare.mono {w : World} {B B' : Nat} {T : TypeId} {sz : Nat} {s : SV} {b : Nat} {cs rest : List Value} (h : Spare w B T sz s b cs rest) (hB : B' ≤ B) : Spare w B' T sz s b cs rest :=
  ⟨h.a, Nat.le_trans hB h.ge, h.blk, h.len, h.cap⟩

/-- An append that has room. -/
theorem appV_fit {P : Program} {ts : List TypeId} {ty e : TypeId} {sz bt : Nat} {z : List Value} {w : World} {B b : Nat} {s : SV} {x : Value} {m : Nat} {cs rest news : List Value} {K : SV → World → Prop}
    (hT : AppT P ts e sz bt z) (hs : Spare w B e sz s b cs rest) (hx : Src P w sz x m news) (hfit : s.len + m ≤ s.cap)
    (hk : ∀ w', Spare w' B e sz ⟨s.a, s.len + m, s.cap⟩ b (cs ++ news) (rest.drop news.length) → Upd (fun x => x = b) w w' → K ⟨s.a, s.len + m, s.cap⟩ w') :
    appV P ts ty [.slice s.a s.len s.cap, x] w K := by
  obtain ⟨t0, ht0, hu0⟩ := hT.t0
  obtain ⟨t1, d1, ht1, hu1, hd1⟩ := hT.t1
  obtain ⟨ha, hb, hblk, hlen, hcap⟩ := hs
  have hst := storeCells_own (P := P) (o := s.len * sz) (vs := news) hblk (by rw [hcap, hx.size, ← Nat.add_mul]; exact Nat.mul_le_mul_right _ hfit) hx.one
  have hblk' := setCells_blk (o := s.len * sz) news w 0 _ hblk (by rw [Nat.add_zero, hcap, hx.size, ← Nat.add_mul]; exact Nat.mul_le_mul_right _ hfit)
  have hspl : spl (cs ++ rest) (s.len * sz + 0) news = (cs ++ news) ++ rest.drop news.length := by
    rw [Nat.add_zero, ← hlen]
    simp only [spl, List.take_left', List.append_assoc]
    rw [List.drop_append, List.drop_eq_nil_of_le (by omega)]
    simp
  rw [hspl] at hblk'
  unfold appV runV
  refine ⟨⟨s.a, s.len + m, s.cap⟩, setCells w ⟨b, s.len * sz, none⟩ 0 news, ?_, hk _ ⟨ha, hb, hblk', by simp [hlen, hx.size, Nat.add_mul], ?_⟩ ((Upd.refl (fun x => x = b) w).setCells (p := ⟨b, s.len * sz, none⟩) (fun _ => rfl) 0 news)⟩
  · simp only [Builtin.append_]
    rw [ht0]
    rcases hd1 with rfl | ⟨e1, rfl⟩ <;> simp [run_underlying hu0, run_szOf hT.size, ht1, run_underlying hu1, hx.len, hfit, hx.cells, ha, hst]
  · have h1 : news.length ≤ rest.length := by
      have : (cs ++ rest).length = cs.length + rest.length := by simp
      have h2 : (s.len + m) * sz ≤ s.cap * sz := Nat.mul_le_mul_right _ hfit
      rw [Nat.add_mul, ← hx.size, ← hlen] at h2
      omega
    rw [← hcap]; simp; omega

theorem subA_zero (a : Option Addr) (sz m : Nat) : subA a 0 sz m = a := by
  unfold subA
  split
  · rfl
  · cases a <;> simp [add_zero']
theorem set_rep (a : List Value) (x y : Value) (n k : Nat) (h : k < n) :
    (a ++ (List.replicate k x ++ List.replicate (n - k) y)).set (a.length + k) x = a ++ (List.replicate (k + 1) x ++ List.replicate (n - (k + 1)) y) := by
  rw [List.set_append_right _ _ (by omega), show a.length + k - a.length = k by omega, List.set_append_right _ _ (by simp)]
  simp only [List.length_replicate, Nat.sub_self]
  obtain ⟨d, hd⟩ : ∃ d, n - k = d + 1 := ⟨n - k - 1, by omega⟩
  rw [hd, show n - (k + 1) = d by omega, List.replicate_succ (n := d), List.set_cons_zero, List.replicate_succ' (n := k)]
  simp
theorem reps_eq {v : Value} : ∀ n, reps n [v] = List.replicate n v
  | 0 => rfl
  | n + 1 => by rw [reps, reps_eq n]; rfl
theorem reps_add (z : List Value) : ∀ m n, reps (m + n) z = reps m z ++ reps n z
  | 0, n => by simp [reps]
  | m + 1, n => by rw [show m + 1 + n = (m + n) + 1 by omega, reps, reps_add z m n, reps, List.append_assoc]
theorem reps_drop {z : List Value} {sz : Nat} (hz : z.length = sz) (n k : Nat) : (reps (n + k) z).drop (n * sz) = reps k z := by
  rw [reps_add, List.drop_left']
  rw [reps_length, hz]
theorem reps_at {c : List Value} {sz j : Nat} (hc : c.length = sz) (hj : j < sz) : ∀ (n k : Nat), k < n → (reps n c)[k * sz + j]? = c[j]?
  | 0, k, h => by omega
  | n + 1, 0, _ => by rw [reps, Nat.zero_mul, Nat.zero_add, List.getElem?_append_left (by omega)]
  | n + 1, k + 1, h => by rw [reps, List.getElem?_append_right (by rw [hc, Nat.add_mul]; omega), hc, show (k + 1) * sz + j - sz = k * sz + j by rw [Nat.add_mul]; omega, reps_at hc hj n k (by omega)]
theorem reps_snoc (z : List Value) : ∀ n, reps (n + 1) z = reps n z ++ z
  | 0 => by simp [reps]
  | n + 1 => by
    show z ++ reps (n + 1) z = (z ++ reps n z) ++ z
    rw [reps_snoc z n, List.append_assoc]
/-- Room that is filled, one by one. -/
theorem spl_reps {a c z : List Value} {sz k n : Nat} (hc : c.length = sz) (hz : z.length = sz) (h : k < n) :
    spl (a ++ (reps k c ++ reps (n - k) z)) (a.length + k * sz) c = a ++ (reps (k + 1) c ++ reps (n - (k + 1)) z) := by
  obtain ⟨d, hd⟩ : ∃ d, n - k = d + 1 := ⟨n - k - 1, by omega⟩
  have hl : (a ++ reps k c).length = a.length + k * sz := by rw [List.length_append, reps_length, hc]
  rw [hd, show n - (k + 1) = d by omega, ← List.append_assoc, reps, ← List.append_assoc, spl, ← hl, List.append_assoc (a ++ reps k c), List.take_left', reps_snoc]
  · rw [List.drop_append, List.drop_eq_nil_of_le (by omega), show (a ++ reps k c).length + c.length - (a ++ reps k c).length = c.length by omega, hc, ← hz, List.drop_left']
    · simp
    · rfl
  · rfl
end Go.Vc
