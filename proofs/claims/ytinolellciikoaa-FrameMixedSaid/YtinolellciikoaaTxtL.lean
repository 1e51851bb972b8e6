/- Lists of texts of one's own, no two of which share anything. Conditions: those that each lemma names. -/
import Derived.Test.YtinolellciikoaaFrame6
import Derived.Test.YtinolellciikoaaSetS
namespace Go.Proofs
open Go Go.Vc
abbrev Txt := SV × List UInt8
@[reducible] def encT (x : Txt) : List Value := [.slice x.1.a x.1.len x.1.cap]
theorem encT_len (x : Txt) : (encT x).length = 1 := rfl
structure OwnL (w : World) (B : Nat) (s : SV) (l : List Txt) : Prop where
  own : OwnS encT 1 T.sl_uint8 w B s l
  txt : ∀ x ∈ l, OwnB w B x.1 x.2
  sep : ∀ x ∈ l, ∀ b, x.1.blk b → ¬ s.blk b
  dis : l.Pairwise fun x y => ∀ b, x.1.blk b → ¬ y.1.blk b
theorem OwnL.nil (w : World) (B : Nat) : OwnL w B ⟨none, 0, 0⟩ [] := ⟨OwnS.nil encT_len (by decide) _ _ _, by simp, by simp, .nil⟩
theorem OwnL.len {w : World} {B : Nat} {s : SV} {l : List Txt} (h : OwnL w B s l) : s.len = l.length := h.own.len
theorem OwnL.upd {M : Nat → Prop} {w w' : World} {B : Nat} {s : SV} {l : List Txt} (h : OwnL w B s l) (u : Upd M w w') (hs : ∀ b, s.blk b → ¬ M b) (hl : ∀ x ∈ l, ∀ b, x.1.blk b → ¬ M b) : OwnL w' B s l :=
  ⟨⟨h.own.own.upd u hs, h.own.esz, h.own.pos⟩, fun x hx => (h.txt x hx).upd u (hl x hx), h.sep, h.dis⟩
theorem OwnL.ext {w w' : World} {B : Nat} {s : SV} {l : List Txt} (h : OwnL w B s l) (u : Ext w w') : OwnL w' B s l := h.upd u (fun _ _ => id) fun _ _ _ _ => id
theorem OwnL.mono {w : World} {B B' : Nat} {s : SV} {l : List Txt} (h : OwnL w B s l) (hB : B' ≤ B) : OwnL w B' s l := ⟨⟨h.own.own.mono hB, h.own.esz, h.own.pos⟩, fun x hx => (h.txt x hx).mono hB, h.sep, h.dis⟩
theorem OwnL.lt {w : World} {B : Nat} {s : SV} {l : List Txt} (h : OwnL w B s l) {b : Nat} (hb : s.blk b ∨ ∃ x ∈ l, x.1.blk b) : B ≤ b ∧ b < w.heap.size := by
  rcases hb with hb | ⟨x, hx, hb⟩
  · exact ⟨h.own.own.blk_ge hb, h.own.own.blk_lt hb⟩
  · exact ⟨(h.txt x hx).blk_ge hb, (h.txt x hx).blk_lt hb⟩
/-- One more text is put behind. -/
theorem app_text {w0 w : World} {s t : SV} {l : List Txt} {d : List UInt8} {K : SV → World → Prop} {ty : TypeId} (he : Ext w0 w) (hs : OwnL w w0.heap.size s l) (ht : OwnB w w0.heap.size t d)
    (h1 : ∀ b, t.blk b → ¬ s.blk b) (h2 : ∀ x ∈ l, ∀ b, x.1.blk b → ¬ t.blk b) (hl : l.length ≤ 1000000)
    (hk : ∀ s' w', OwnL w' w0.heap.size s' (l ++ [(t, d)]) → Ext w0 w' → K s' w') :
    appV Try.prog [T.sl_sl_uint8, T.sl_sl_uint8] ty [.slice s.a s.len s.cap, .slice (some ⟨w.heap.size, 0, none⟩) 1 1] (w.alloc (.cells [.slice t.a t.len t.cap].toArray T.sl_uint8)) K := by
  have hs' := hs.ext (ext_alloc w (.cells [.slice t.a t.len t.cap].toArray T.sl_uint8))
  have ht' := ht.ext (ext_alloc w (.cells [.slice t.a t.len t.cap].toArray T.sl_uint8))
  have hsrc := (Own.new w T.sl_uint8 1 1 [.slice t.a t.len t.cap] rfl).rd.src (P := Try.prog) (by simp [Value.oneCell'])
  have hz : (w.alloc (.cells [.slice t.a t.len t.cap].toArray T.sl_uint8)).heap.size = w.heap.size + 1 := by simp
  have hel := (he.alloc (.cells [.slice t.a t.len t.cap].toArray T.sl_uint8))
  have hsz := he.size
  have hlen := hs.len
  generalize w.alloc (.cells [.slice t.a t.len t.cap].toArray T.sl_uint8) = w1 at *
  refine appV_ownL appL hs'.own.own hsrc (by omega) (fun hlt => Nat.le_trans (Nat.mul_le_mul_right _ (nextcap_le hlt)) (by show (2 * (s.len + 1) + 192) * 24 ≤ 281474976710656; omega)) ?_
  intro s' w2 ho hl2 u2 _ hloc
  have hloc' : ∀ c, s'.blk c → s.blk c ∨ c = w1.heap.size := by
    rintro c ⟨A', hA', rfl⟩
    rcases hloc with hl | hl
    · exact .inl ⟨A', by rw [← hl]; exact hA', rfl⟩
    · rw [hl] at hA'; obtain rfl := Option.some.inj hA'; exact .inr rfl
  refine hk s' w2 ⟨⟨by rw [List.flatMap_append]; simpa using ho, encT_len, by decide⟩, ?_, ?_, ?_⟩ (hel.own hs'.own.own (Nat.le_refl _) u2)
  · intro x hx
    rcases List.mem_append.1 hx with hx | hx
    · exact (hs'.txt x hx).upd u2 (hs'.sep x hx)
    · obtain rfl := by simpa using hx
      exact ht'.upd u2 h1
  · intro x hx b hb hsb
    rcases hloc' b hsb with h | h
    · rcases List.mem_append.1 hx with hx | hx
      · exact hs'.sep x hx b hb h
      · obtain rfl := by simpa using hx
        exact h1 b hb h
    · rcases List.mem_append.1 hx with hx | hx
      · have := (hs'.txt x hx).blk_lt hb; omega
      · obtain rfl := by simpa using hx
        have := ht'.blk_lt hb; omega
  · refine List.pairwise_append.2 ⟨hs.dis, by simp, fun x hx y hy b hb => ?_⟩
    obtain rfl := by simpa using hy
    exact h2 x hx b hb
end Go.Proofs
