/- A list of texts in an array beside a device; what a device is behind Start, Arm(0), Flush. Conditions: those of each lemma. -/
import Derived.Test.YtinolellciikoaaDisk5
import Derived.Test.YtinolellciikoaaByt
namespace Go.Proofs
open Go Go.Vc
theorem settle (D : DK) : ∃ K fl, K.length = D.kept.length ∧ fl ≤ D.flips ∧ flushD (armD (startD D) 0).1 = ({ kept := K, waits := [], down := false, armed := 0, flips := fl }, 0) := by
  obtain ⟨K, W, fl, hE, hK, hf⟩ : ∃ K W fl, (armD (startD D) 0).1 = { kept := K, waits := W, down := false, armed := 0, flips := fl } ∧ K.length = D.kept.length ∧ fl ≤ D.flips := by
    unfold startD
    by_cases hd : D.down = true
    · rw [if_pos hd]; exact ⟨D.kept, [], D.flips, rfl, rfl, Nat.le_refl _⟩
    · rw [if_neg hd]
      refine ⟨D.kept, D.waits, D.flips, ?_, rfl, Nat.le_refl _⟩
      have hd' : D.down = false := by simpa using hd
      rw [armD, if_neg hd]
      simp [hd']
  refine ⟨applyW K W, fl, by rw [applyW_len, hK], hf, ?_⟩
  rw [hE, flushD, if_neg (by simp), cntD_zero rfl, if_neg (by simp)]
@[reducible] def slV (t : SV) : Value := .slice t.a t.len t.cap
/-- An array of eight slices that read as these texts, beside a device. -/
structure Wants (w : World) (b d : Nat) (k s : SV) (ts : List SV) (V : List (List UInt8)) : Prop where
  bk : BK w b T.a8_sl_uint8 (ts.map slV)
  tl : ts.length = V.length
  own : ∀ (j : Nat) t l, ts[j]? = some t → V[j]? = some l → OwnB w 0 t l ∧ ¬ t.blk b ∧ ∀ c, t.blk c → ¬ fp d k s c
  nb : ¬ fp d k s b
theorem Wants.get' {w : World} {b d : Nat} {k s : SV} {ts : List SV} {V : List (List UInt8)} (h : Wants w b d k s ts V) {j : Nat} {t : SV} (ht : ts[j]? = some t) : ∃ l, V[j]? = some l := by
  have := (List.getElem?_eq_some_iff.1 ht).1
  exact ⟨_, List.getElem?_eq_getElem (by rw [← h.tl]; exact this)⟩
theorem Wants.dk {w w' : World} {b d : Nat} {k s s' : SV} {D' : DK} {ts : List SV} {V : List (List UInt8)} (h : Wants w b d k s ts V) (t : DkTo w w' d k s s' D') : Wants w' b d k s' ts V := by
  refine ⟨h.bk.upd t.u h.nb, h.tl, fun j x l hx hl => ?_, fun hb => ?_⟩
  · obtain ⟨h1, h2, h3⟩ := h.own j x l hx hl
    refine ⟨Own.upd h1 t.u h3, h2, fun c hc hf => ?_⟩
    rcases t.fp' hf with h4 | h4
    · exact h3 c hc h4
    · have := Own.blk_lt h1 hc; omega
  · rcases t.fp' hb with h4 | h4
    · exact h.nb h4
    · have := h.bk.lt; omega
theorem Wants.ext {w w' : World} {b d : Nat} {k s : SV} {ts : List SV} {V : List (List UInt8)} (h : Wants w b d k s ts V) (e : Ext w w') : Wants w' b d k s ts V :=
  ⟨h.bk.ext e, h.tl, fun j x l hx hl => ⟨Own.ext (h.own j x l hx hl).1 e, (h.own j x l hx hl).2⟩, h.nb⟩
theorem Wants.put {w : World} {b d : Nat} {k s : SV} {ts : List SV} {V : List (List UInt8)} (h : Wants w b d k s ts V) {i : Nat} (hi : i < V.length) {t : SV} {l : List UInt8} (ho : OwnB w 0 t l) (hb : ¬ t.blk b) (hd : ∀ c, t.blk c → ¬ fp d k s c) :
    (w.cell? (Addr.add ⟨b, 0, none⟩ i)).isSome = true ∧ w.frozen? (Addr.add ⟨b, 0, none⟩ i) = false ∧ Wants (w.setCell (Addr.add ⟨b, 0, none⟩ i) (slV t)) b d k s (ts.set i t) (V.set i l) ∧ Upd (fun x => x = b) w (w.setCell (Addr.add ⟨b, 0, none⟩ i) (slV t)) := by
  obtain ⟨c1, c2, c3⟩ := h.bk.store i (by rw [List.length_map, h.tl]; exact hi) (slV t)
  have u : Upd (fun x => x = b) w (w.setCell (Addr.add ⟨b, 0, none⟩ i) (slV t)) := (Upd.refl _ w).set (p := Addr.add ⟨b, 0, none⟩ i) (fun _ => by simp) _
  refine ⟨c1, c2, ⟨by rw [List.map_set]; exact c3, by rw [List.length_set, List.length_set]; exact h.tl, fun j x y hx hy => ?_, h.nb⟩, u⟩
  by_cases hj : i = j
  · subst hj
    rw [List.getElem?_set_self (by rw [h.tl]; exact hi)] at hx
    rw [List.getElem?_set_self hi] at hy
    obtain rfl := Option.some.inj hx
    obtain rfl := Option.some.inj hy
    exact ⟨Own.upd ho u fun c hc he => hb (he ▸ hc), hb, hd⟩
  · rw [List.getElem?_set_ne hj] at hx hy
    obtain ⟨h1, h2, h3⟩ := h.own j x y hx hy
    exact ⟨Own.upd h1 u fun c hc he => h2 (he ▸ hc), h2, h3⟩
theorem Wants.get {w : World} {b d : Nat} {k s : SV} {ts : List SV} {V : List (List UInt8)} (h : Wants w b d k s ts V) {i : Nat} {l : List UInt8} (hl : V[i]? = some l) :
    ∃ t : SV, w.cell? (Addr.add ⟨b, 0, none⟩ i) = some (.slice t.a t.len t.cap) ∧ RdB w t l := by
  have hi : i < ts.length := by rw [h.tl]; exact (List.getElem?_eq_some_iff.1 hl).1
  have ht : ts[i]? = some ts[i] := List.getElem?_eq_getElem hi
  exact ⟨ts[i], h.bk.get i (by rw [List.getElem?_map, ht]; rfl), (h.own i _ _ ht hl).1.rd⟩
theorem DkAt.beside {w w' : World} {b d : Nat} {k s : SV} {D : DK} (h : DkAt w d k s D) (hb : ¬ fp d k s b) (u : Upd (fun x => x = b) w w') : DkAt w' d k s D := h.upd u fun c hc he => hb (he ▸ hc)
@[reducible] def nilV8 : List Value := [.slice none 0 0, .slice none 0 0, .slice none 0 0, .slice none 0 0, .slice none 0 0, .slice none 0 0, .slice none 0 0, .slice none 0 0]
theorem Wants.new {w : World} {b d : Nat} {k s : SV} (h : BK w b T.a8_sl_uint8 nilV8) (hb : ¬ fp d k s b) : Wants w b d k s (List.replicate 8 ⟨none, 0, 0⟩) (List.replicate 8 []) := by
  refine ⟨h, rfl, fun j t l ht hl => ?_, hb⟩
  obtain rfl : t = ⟨none, 0, 0⟩ := List.eq_of_mem_replicate (List.mem_of_getElem? ht)
  obtain rfl : l = [] := List.eq_of_mem_replicate (List.mem_of_getElem? hl)
  exact ⟨Own.nil _ _ _ _, fun ⟨A, hA, _⟩ => by simp at hA, fun c ⟨A, hA, _⟩ => by simp at hA⟩
/-- What the first sectors show, the rest nil. -/
def valsK (K : List Sec) (i : Nat) : List (List UInt8) := (K.take i).map (·.1) ++ List.replicate (8 - i) []
theorem valsK_len {K : List Sec} {i : Nat} (hK : K.length = 8) (hi : i ≤ 8) : (valsK K i).length = 8 := by
  rw [valsK, List.length_append, List.length_map, List.length_take, List.length_replicate]; omega
theorem valsK_set {K : List Sec} {i : Nat} {x : Sec} (hK : K.length = 8) (hx : K[i]? = some x) : (valsK K i).set i x.1 = valsK K (i + 1) := by
  have hi : i < 8 := by rw [← hK]; exact (List.getElem?_eq_some_iff.1 hx).1
  have hl : ((K.take i).map (·.1)).length = i := by rw [List.length_map, List.length_take]; omega
  rw [valsK, valsK, List.set_append_right _ _ (by omega), hl, Nat.sub_self, show 8 - i = (8 - (i + 1)) + 1 by omega, List.replicate_succ, List.set_cons_zero, List.take_add_one, hx]
  simp
theorem valsK_all {K : List Sec} (hK : K.length = 8) : valsK K 8 = K.map (·.1) := by
  rw [valsK, List.take_of_length_le (by omega)]; simp
theorem mod8 (x : Int) : ∃ n : Nat, IntKind.i64.wrap ((IntKind.u64.wrap x).tmod 8) = n ∧ n = (IntKind.u64.wrap x % 8).toNat ∧ n < 8 := by
  have h0 : 0 ≤ IntKind.u64.wrap x := by rw [u64_mod]; omega
  refine ⟨(IntKind.u64.wrap x % 8).toNat, ?_, rfl, by omega⟩
  rw [Int.tmod_eq_emod_of_nonneg h0, i64_id (by omega) (by omega)]
  omega
end Go.Proofs
