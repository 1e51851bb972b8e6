/- The document's frames of a record, and its Join. Conditions: those of each contract. -/
import Derived.Test.YtinolellciikoaaCond13
import Derived.Test.YtinolellciikoaaFrame8
import Derived.Test.YtinolellciikoaaTxtL
namespace Go.Proofs
open Go Go.Vc
theorem encFr_len (x : FrW) : (encFr x).length = 4 := rfl
theorem encFr_one (l : List FrW) : ∀ v ∈ l.flatMap encFr, v.oneCell' = true := by
  intro v hv
  obtain ⟨x, _, hx⟩ := List.mem_flatMap.1 hv
  simp [encFr] at hx
  rcases hx with rfl | rfl | rfl | rfl <;> rfl
theorem slfr_u : Try.prog.underlying T.sl_api_Frame = some (.slice T.api_Frame) := by kernel_rfl
theorem appFr : AppT Try.prog [T.sl_api_Frame, T.sl_api_Frame] T.api_Frame 4 48 zFr :=
  ⟨⟨T.sl_api_Frame, rfl, slfr_u⟩, ⟨T.sl_api_Frame, _, rfl, slfr_u, .inr ⟨T.api_Frame, rfl⟩⟩, by kernel_rfl, by kernel_rfl, by decide, by kernel_rfl, rfl, by decide⟩
/-- A slice of frames of one's own, whose texts are elsewhere. -/
structure OwnFr (w : World) (B : Nat) (s : SV) (L : List FrW) : Prop where
  own : OwnS encFr 4 T.api_Frame w B s L
  ok : ∀ x ∈ L, RdB w x.s x.data ∧ x.age < 2 ^ 64 ∧ x.first < 2 ^ 64 ∧ x.data.length ≤ 140737488351232
  sep : ∀ x ∈ L, ∀ b, x.s.blk b → b < w.heap.size ∧ ¬ s.blk b
theorem OwnFr.nil (w : World) (B : Nat) : OwnFr w B ⟨none, 0, 0⟩ [] := ⟨OwnS.nil encFr_len (by decide) _ _ _, by simp, by simp⟩
theorem OwnFr.rd {w : World} {B : Nat} {s : SV} {L : List FrW} (h : OwnFr w B s L) : RdFr w s L := ⟨h.own.rd, h.ok⟩
theorem OwnFr.ext {w w' : World} {B : Nat} {s : SV} {L : List FrW} (h : OwnFr w B s L) (e : Ext w w') : OwnFr w' B s L :=
  ⟨h.own.ext e, h.rd.ext e |>.ok, fun x hx b hb => ⟨by have := (h.sep x hx b hb).1; have := e.size; omega, (h.sep x hx b hb).2⟩⟩
theorem app_frs {w0 w : World} {s : SV} {L M : List FrW} {x : Value} {m : Nat} {K : SV → World → Prop} {ty : TypeId} (he : Ext w0 w) (hs : OwnFr w w0.heap.size s L) (hx : Src Try.prog w 4 x m (M.flatMap encFr))
    (hM : ∀ x ∈ M, RdB w x.s x.data ∧ x.age < 2 ^ 64 ∧ x.first < 2 ^ 64 ∧ x.data.length ≤ 140737488351232) (hM' : ∀ x ∈ M, ∀ b, x.s.blk b → b < w.heap.size ∧ ¬ s.blk b) (hl : L.length ≤ 1000000) (hm : m ≤ 1000000)
    (hk : ∀ s' w', OwnFr w' w0.heap.size s' (L ++ M) → Ext w0 w' → (∀ c, s'.blk c → s.blk c ∨ w.heap.size ≤ c) → K s' w') :
    appV Try.prog [T.sl_api_Frame, T.sl_api_Frame] ty [.slice s.a s.len s.cap, x] w K := by
  have hsz := he.size
  have hlen := hs.own.len
  refine appV_ownL appFr hs.own.own hx he.size (fun hlt => Nat.le_trans (Nat.mul_le_mul_right _ (nextcap_le hlt)) (by omega)) ?_
  intro s' w2 ho hl2 u2 _ hloc
  have hloc' : ∀ c, s'.blk c → s.blk c ∨ c = w.heap.size := by
    rintro c ⟨A', hA', rfl⟩
    rcases hloc with hl | hl
    · exact .inl ⟨A', by rw [← hl]; exact hA', rfl⟩
    · rw [hl] at hA'; obtain rfl := Option.some.inj hA'; exact .inr rfl
  have hall : ∀ x ∈ L ++ M, (RdB w x.s x.data ∧ x.age < 2 ^ 64 ∧ x.first < 2 ^ 64 ∧ x.data.length ≤ 140737488351232) ∧ ∀ b, x.s.blk b → b < w.heap.size ∧ ¬ s.blk b := fun x hx => by
    rcases List.mem_append.1 hx with h | h
    · exact ⟨hs.ok x h, hs.sep x h⟩
    · exact ⟨hM x h, hM' x h⟩
  refine hk s' w2 ⟨⟨by rw [List.flatMap_append]; exact ho, encFr_len, by decide⟩, fun x hx => ?_, fun x hx b hb => ?_⟩ (he.own hs.own.own (Nat.le_refl _) u2) (fun c hc => (hloc' c hc).imp id fun h => by omega)
  · obtain ⟨⟨h1, h2⟩, h3⟩ := hall x hx
    exact ⟨h1.upd u2 fun b hb => (h3 b hb).2, h2⟩
  · obtain ⟨h1, h3⟩ := hall x hx
    have := h3 b hb
    refine ⟨by have := u2.size; omega, fun hc => ?_⟩
    rcases hloc' b hc with h | h
    · exact this.2 h
    · omega
theorem app_fr {w0 w : World} {s : SV} {L : List FrW} {x : FrW} {K : SV → World → Prop} {ty : TypeId} (he : Ext w0 w) (hs : OwnFr w w0.heap.size s L)
    (hM : RdB w x.s x.data ∧ x.age < 2 ^ 64 ∧ x.first < 2 ^ 64 ∧ x.data.length ≤ 140737488351232) (hM' : ∀ b, x.s.blk b → b < w.heap.size ∧ ¬ s.blk b) (hl : L.length ≤ 1000000)
    (hk : ∀ s' w', OwnFr w' w0.heap.size s' (L ++ [x]) → Ext w0 w' → (∀ c, s'.blk c → s.blk c ∨ w.heap.size ≤ c) → K s' w') :
    appV Try.prog [T.sl_api_Frame, T.sl_api_Frame] ty [.slice s.a s.len s.cap, .slice (some ⟨w.heap.size, 0, none⟩) 1 1] (w.alloc (.cells (encFr x).toArray T.api_Frame)) K := by
  have e := ext_alloc w (.cells (encFr x).toArray T.api_Frame)
  have hz : (w.alloc (.cells (encFr x).toArray T.api_Frame)).heap.size = w.heap.size + 1 := by simp
  refine app_frs (M := [x]) (m := 1) (he.tr e) (hs.ext e) ?_ ?_ ?_ hl (by decide) fun s' w' h1 h2 h3 => hk s' w' h1 h2 fun c hc => (h3 c hc).imp id fun h => by omega
  · have := (Own.new w T.api_Frame 4 1 (encFr x) rfl).rd.src (P := Try.prog) (by have := encFr_one [x]; simpa using this)
    simpa using this
  · intro y hy
    obtain rfl := by simpa using hy
    exact ⟨hM.1.ext e, hM.2⟩
  · intro y hy b hb
    obtain rfl := by simpa using hy
    have := hM' b hb
    exact ⟨by omega, this.2⟩
/-- The frames of a record. -/
def Frs (a f : Nat) (d : List UInt8) (L : List FrW) : Prop :=
  ∀ i, (h : i < L.length) → L[i].age = a ∧ L[i].first = f ∧ L[i].of = (cntF d.length : Int) ∧ L[i].data = piece d i
theorem _root_.Go.Vc.Rd.headB {w : World} {s : SV} {l : List UInt8} (h : RdB w s l) {n : Nat} (hn : n ≤ l.length) (c : Nat) : RdB w ⟨s.a, n, c⟩ (l.take n) := by
  refine ⟨by rw [B8_length, List.length_take]; simp; omega, fun ha => ?_, fun A hA => ?_⟩
  · have := h.nil ha; have := h.lenB; simp only; omega
  · have := (h.at_ A hA).take n
    simpa [B8] using this
theorem sub_piece {w : World} {s : SV} {d : List UInt8} (hd : RdB w s d) (i c : Nat) (hi : i * 440 ≤ d.length) (hc : min d.length ((i + 1) * 440) ≤ c) :
    RdB w ⟨subA s.a (i * 440) 1 c, min d.length ((i + 1) * 440) - i * 440, c - i * 440⟩ (piece d i) := by
  have h1 := hd.headB (n := min d.length ((i + 1) * 440)) (by omega) c
  have h2 := h1.subB hc (i := i * 440) (j := min d.length ((i + 1) * 440)) (by omega) (by rw [List.length_take]; omega)
  have : ((d.take (min d.length ((i + 1) * 440))).drop (i * 440)).take (min d.length ((i + 1) * 440) - i * 440) = piece d i := by
    rw [List.drop_take, List.take_take, Nat.min_self, piece, List.take_eq_take_iff, List.length_drop]
    omega
  rw [this] at h2
  exact h2
theorem cut_bounds {n i : Nat} (hn : n ≤ 8192) (hi : i < cntF n) : i * 440 ≤ n ∧ i < 19 := by
  unfold cntF at hi
  split at hi <;> omega
set_option maxRecDepth 100000 in
theorem ref06_Frames.spec {w : World} {a f : Nat} {s : SV} {d : List UInt8} (ha : a < 2 ^ 64) (hf : f < 2 ^ 64) (hd : RdB w s d) (hc : s.len ≤ s.cap) (hl : d.length ≤ 8192) :
    CallT [.one .slice] Try.prog F.dunnageref06_Frames [.int .u64 a, .int .u64 f, .slice s.a s.len s.cap] w fun r w' => ∃ L, OwnFr w' w.heap.size r L ∧ L.length = cntF d.length ∧ Frs a f d L ∧ Ext w w' := by
  refine dunnageref06_Frames.vc (a : Int) (f : Int) s w _ ?_
  have hdl := hd.lenB
  refine CallT.mono (ref06_Count.spec (s.len : Int) ⟨by omega, by omega⟩ w) ?_
  rintro _ _ ⟨rfl, rfl⟩
  rw [hdl, cntF_eq]
  refine ⟨fun m x w' => ∃ (i : Nat) (t : SV) (L : List FrW), x = (t, (i : Int)) ∧ i ≤ cntF d.length ∧ m = cntF d.length - i ∧ OwnFr w' w.heap.size t L ∧ L.length = i ∧ Frs a f d L ∧ Ext w w', ⟨_, 0, _, [], rfl, by omega, rfl, OwnFr.nil _ _, rfl, fun i h => by simp at h, Upd.refl _ _⟩, ?_⟩
  rintro m _ _ w1 ⟨i, t, L, rfl, hi, rfl, ht, hL, hF, e1⟩
  dsimp only
  refine cnd_dec (fun hlt => ?_) (fun hge => ⟨L, ht, by omega, hF, e1⟩)
  have hil : i < cntF d.length := by omega
  obtain ⟨b1, b2⟩ := cut_bounds hl hil
  have h1 : IntKind.i64.wrap ((i : Int) + 1) = ((i + 1 : Nat) : Int) := by rw [i64_id (by omega) (by omega)]; simp
  have h2 : IntKind.i64.wrap (((i + 1 : Nat) : Int) * 440) = (((i + 1) * 440 : Nat) : Int) := by rw [i64_id (by omega) (by omega)]; simp
  have h3 : IntKind.i64.wrap ((i : Int) * 440) = ((i * 440 : Nat) : Int) := by rw [i64_id (by omega) (by omega)]; simp
  rw [h1, h2, h3]
  have h4 : min ((d.length : Nat) : Int) (((i + 1) * 440 : Nat) : Int) = ((min d.length ((i + 1) * 440) : Nat) : Int) := by omega
  rw [h4]
  simp only [Int.toNat_natCast]
  refine ⟨by omega, by omega, by omega, by omega, ?_⟩
  have hp := sub_piece (hd.ext e1) i s.cap b1 (by omega)
  have hpl := piece_len d i
  refine CallT.mono (copyBytes.spec hp (by omega)) ?_
  rintro o w2 ⟨ho, e2⟩
  have e02 := e1.tr e2
  refine app_fr (x := ⟨a, f, (cntF d.length : Int), o, piece d i⟩) e02 (ht.ext e2) ⟨ho.rd, ha, hf, by simp only; omega⟩ (fun b hb => ⟨ho.blk_lt hb, fun hs => ?_⟩) (by omega) ?_
  · have := ho.blk_ge hb
    have := ht.own.own.blk_lt hs
    omega
  intro t' w3 ht' e3 _
  refine ⟨cntF d.length - (i + 1), by omega, i + 1, t', _, rfl, by omega, rfl, ht', by simp [hL], ?_, e3⟩
  intro j hj
  by_cases hjl : j < L.length
  · rw [List.getElem_append_left hjl]; exact hF j hjl
  · have hj' : j = L.length := by simp at hj; omega
    subst hj'
    simp [hL]
end Go.Proofs
