/- frame.Read and the document's: what any bytes are as a frame. Conditions: those of each contract. -/
import Derived.Test.YtinolellciikoaaCond7
import Derived.Test.YtinolellciikoaaFrame3
namespace Go.Proofs
open Go Go.Vc
/-- What bytes are as a frame: age, first, of, data, and the answer. -/
def readR (l : List UInt8) : (Int × Int × Int × List UInt8) × Int :=
  let q1 := numR l 0 0
  let q2 := numR l q1.2.1 q1.2.2
  let q3 := mostR l q2.2.1 q2.2.2 32
  if q3.2.2 ≠ 0 then ((0, 0, 0, []), q3.2.2) else if mayF q3.1 (l.drop q3.2.1.toNat).length = false then ((0, 0, 0, []), 11) else ((q1.1, q2.1, q3.1, l.drop q3.2.1.toNat), 0)
theorem numR_ok {l : List UInt8} {a e : Int} (h0 : 0 ≤ a) (h1 : a ≤ l.length) : 0 ≤ (numR l a e).1 ∧ (numR l a e).1 < 18446744073709551616 ∧ 0 ≤ (numR l a e).2.1 ∧ (numR l a e).2.1 ≤ l.length := by
  unfold numR
  split
  · exact ⟨by simp, by simp, h0, h1⟩
  split
  · exact ⟨by simp, by simp, h0, h1⟩
  · rename_i hz
    obtain ⟨i, j, u, g1, g2, g3, g4, g5, g6⟩ := readVar_ok (l := l) (a := a) (v := (readVar l a).1) (n := (readVar l a).2.1) (by
      have hz' : (readVar l a).2.2 = 0 := by simpa using hz
      rw [← hz'])
    refine ⟨?_, ?_, ?_, ?_⟩
    · show 0 ≤ (readVar l a).1; omega
    · show (readVar l a).1 < _; omega
    · show 0 ≤ (readVar l a).2.1; omega
    · show (readVar l a).2.1 ≤ _; omega
theorem mostR_ok {l : List UInt8} {a e n : Int} (h0 : 0 ≤ a) (h1 : a ≤ l.length) (hn : 0 ≤ n) : 0 ≤ (mostR l a e n).1 ∧ (mostR l a e n).1 ≤ n ∧ 0 ≤ (mostR l a e n).2.1 ∧ (mostR l a e n).2.1 ≤ l.length := by
  obtain ⟨g1, g2, g3, g4⟩ := numR_ok (e := e) h0 h1
  unfold mostR
  split
  · exact ⟨by simp, hn, g3, g4⟩
  split
  · exact ⟨by simp, hn, g3, g4⟩
  · exact ⟨g1, by omega, g3, g4⟩
@[reducible] def zFr : List Value := [.int .u64 0, .int .u64 0, .int .i64 0, .slice none 0 0]
/-- What a call that reads a frame answers. -/
def FrAns (R : (Int × Int × Int × List UInt8) × Int) (w : World) (r : FrV × Int) (w' : World) : Prop :=
  r.1.1 = R.1.1 ∧ r.1.2.1 = R.1.2.1 ∧ r.1.2.2.1 = R.1.2.2.1 ∧ OwnB w' w.heap.size r.1.2.2.2 R.1.2.2.2 ∧ r.2 = R.2 ∧ Ext w w'
theorem ref06_Read.spec {w : World} {s : SV} {l : List UInt8} (hs : RdB w s l) (hc : s.len ≤ s.cap) (hl : l.length ≤ 140737488351232) :
    CallT [.agg [.int .u64, .int .u64, .int .i64, .slice], .one (.int .i64)] Try.prog F.dunnageref06_Read [.slice s.a s.len s.cap] w fun r w' => FrAns (readR l) w r w' := by
  refine dunnageref06_Read.vc s w _ ?_
  have hsl := hs.lenB
  generalize hc1 : w.alloc _ = w1
  obtain ⟨b1, e1, z1⟩ := bk_new (T := T.api_Frame) (vs := zFr) hc1
  dsimp only
  generalize hc2 : w1.alloc _ = w2
  obtain ⟨b2, e2, z2⟩ := bk_new (T := T.dunnageref01_Reader) (vs := rdV s 0 0) hc2
  have e02 : Ext w w2 := e1.trans e2 fun _ _ h => h
  have nlt : ∀ c, s.blk c → l ≠ [] → c < w.heap.size := fun c hb hn => hs.lt (by intro h; apply hn; simpa [B8] using h) c hb
  have keep : ∀ {v v' : World}, Ext w v → Upd (fun x => x = w1.heap.size) v v' → Ext w v' := fun e u => e.trans u fun x hx he => by omega
  have q1 := numR_ok (l := l) (e := 0) (a := 0) (by omega) (by omega)
  have q2 := numR_ok (l := l) (e := (numR l 0 0).2.2) q1.2.2.1 q1.2.2.2
  have q3 := mostR_ok (l := l) (e := (numR l (numR l 0 0).2.1 (numR l 0 0).2.2).2.2) (n := 32) q2.2.2.1 q2.2.2.2 (by omega)
  have q3n := numR_ok (l := l) (e := (numR l (numR l 0 0).2.1 (numR l 0 0).2.2).2.2) q2.2.2.1 q2.2.2.2
  refine CallT.mono (num.spec b2 (hs.ext e02) (by omega) (by omega)) ?_
  rintro _ w3 ⟨rfl, b3, u3⟩
  have e03 := keep e02 u3
  refine CallT.mono (num.spec b3 (hs.ext e03) (by omega) (by omega)) ?_
  rintro _ w4 ⟨rfl, b4, u4⟩
  have e04 := keep e03 u4
  refine CallT.mono (most.spec b4 (hs.ext e04) (by omega) (by omega) (n := 32) (by omega) q3n.1) ?_
  rintro _ w5 ⟨rfl, b5, u5⟩
  have e05 := keep e04 u5
  have hR : readR l = if (mostR l (numR l (numR l 0 0).2.1 (numR l 0 0).2.2).2.1 (numR l (numR l 0 0).2.1 (numR l 0 0).2.2).2.2 32).2.2 ≠ 0 then ((0, 0, 0, []), (mostR l (numR l (numR l 0 0).2.1 (numR l 0 0).2.2).2.1 (numR l (numR l 0 0).2.1 (numR l 0 0).2.2).2.2 32).2.2)
    else if mayF (mostR l (numR l (numR l 0 0).2.1 (numR l 0 0).2.2).2.1 (numR l (numR l 0 0).2.1 (numR l 0 0).2.2).2.2 32).1 (l.drop (mostR l (numR l (numR l 0 0).2.1 (numR l 0 0).2.2).2.1 (numR l (numR l 0 0).2.1 (numR l 0 0).2.2).2.2 32).2.1.toNat).length = false then ((0, 0, 0, []), 11)
    else (((numR l 0 0).1, (numR l (numR l 0 0).2.1 (numR l 0 0).2.2).1, (mostR l (numR l (numR l 0 0).2.1 (numR l 0 0).2.2).2.1 (numR l (numR l 0 0).2.1 (numR l 0 0).2.2).2.2 32).1, l.drop (mostR l (numR l (numR l 0 0).2.1 (numR l 0 0).2.2).2.1 (numR l (numR l 0 0).2.1 (numR l 0 0).2.2).2.2 32).2.1.toNat), 0) := rfl
  rw [hR]
  clear hR
  generalize mostR l (numR l (numR l 0 0).2.1 (numR l 0 0).2.2).2.1 (numR l (numR l 0 0).2.1 (numR l 0 0).2.2).2.2 32 = m at q3 b5 ⊢
  generalize (numR l (numR l 0 0).2.1 (numR l 0 0).2.2).1 = y
  generalize (numR l 0 0).1 = x
  obtain ⟨z, p, e⟩ := m
  dsimp only at q3 b5 ⊢
  have b15 : BK w5 w.heap.size T.api_Frame zFr := (((b1.ext e2).upd u3 (by omega)).upd u4 (by omega)).upd u5 (by omega)
  generalize hc6 : w5.alloc _ = w6
  generalize hd6 : setCells w6 _ 0 _ = w7
  obtain ⟨c7, b7, e7, z7⟩ := bk_mk (T := T.api_Frame) (z := zFr) (vs := [.int .u64 x, .int .u64 y, .int .i64 z, .slice none 0 0]) hc6 hd6 rfl
  have e07 : Ext w w7 := e05.trans e7 fun _ _ h => h
  have b57 := b5.ext e7
  have b17 := b15.ext e7
  have hw5 : w.heap.size < w5.heap.size := b15.lt
  refine ⟨c7, e, b57.get 2 rfl, cnd_bne (fun h => ?_) (fun h => ?_)⟩
  · rw [if_pos h]
    have bd : BK w7.drew w.heap.size T.api_Frame zFr := b17
    have rd : BK w7.drew w1.heap.size T.dunnageref01_Reader (rdV s p e) := b57
    obtain ⟨k1, k2, k3, k4, k5⟩ := bk_put (us := zFr) bd (e07.trans (ext_drew _) fun _ _ h => h) (Nat.le_refl _) rfl rfl
    refine ⟨fun w' => BK w' w1.heap.size T.dunnageref01_Reader (rdV s p e), rd, e, fun _ h => h.get 2 rfl, k1, k5 _ _ _ (by omega) rd, (0, 0, 0, ⟨none, 0, 0⟩), k2.all, rfl, rfl, rfl, Own.nil _ _ _ _, rfl, k3⟩
  · rw [if_neg (by simpa using h)]
    have hs7 := hs.ext e07
    refine ⟨p, b57.get 1 rfl, q3.2.2.1, by omega, ?_⟩
    have hsub := hs7.subB hc (i := p.toNat) (j := l.length) (by omega) (Nat.le_refl _)
    rw [← hsl] at hsub
    have htk : (l.drop p.toNat).take (s.len - p.toNat) = l.drop p.toNat := by rw [List.take_of_length_le]; rw [List.length_drop]; omega
    rw [htk] at hsub
    refine CallT.mono (copyBytes.spec hsub (by rw [List.length_drop]; omega)) ?_
    rintro t w8 ⟨ht, e8⟩
    have b8 := b7.ext e8
    have e08 : Ext w w8 := e07.trans e8 fun _ _ h => h
    obtain ⟨k1, k2, k3⟩ := b8.store 3 (by simp) (.slice t.a t.len t.cap)
    refine ⟨k1, k2, ?_⟩
    have u9 : Upd (fun x => x = w5.heap.size) w8 (w8.setCell (Addr.add ⟨w5.heap.size, 0, none⟩ 3) (.slice t.a t.len t.cap)) := (Upd.refl _ w8).set (p := Addr.add ⟨w5.heap.size, 0, none⟩ 3) (fun _ => by simp) _
    have e09 := e08.trans u9 fun x hx he => absurd hx (by omega)
    have b19 := (b17.ext e8).upd u9 (by omega)
    have ht9 : OwnB _ w7.heap.size t (l.drop p.toNat) := Own.upd ht u9 fun c hc he => by have := ht.blk_ge hc; omega
    generalize w8.setCell (Addr.add ⟨w5.heap.size, 0, none⟩ 3) (.slice t.a t.len t.cap) = w9 at k3 e09 b19 ht9 ⊢
    refine ⟨(x, y, z, t), k3.all, CallT.mono (ref06_May.spec (x, y, z, t) w9) ?_⟩
    rintro _ w10 ⟨rfl, e10⟩
    have e010 : Ext w w10 := e09.trans e10 fun _ _ h => h
    have htl := ht.lenB
    dsimp only
    rw [htl]
    refine cnd_not (fun hm => ?_) (fun hm => ?_)
    · rw [if_pos hm]
      obtain ⟨k1, k2, k3, k4, k5⟩ := bk_put (us := zFr) (b19.ext e10) e010 (Nat.le_refl _) rfl rfl
      exact ⟨k1, (0, 0, 0, ⟨none, 0, 0⟩), k2.all, rfl, rfl, rfl, Own.nil _ _ _ _, rfl, k3⟩
    · rw [if_neg (by rw [hm]; simp)]
      have k3' := k3.ext e10
      obtain ⟨j1, j2, j3, j4, j5⟩ := bk_put (us := frV (x, y, z, t)) (b19.ext e10) e010 (Nat.le_refl _) rfl rfl
      refine ⟨(x, y, z, t), k3'.all, j1, (x, y, z, t), j2.all, rfl, rfl, rfl, ?_, rfl, j3⟩
      have ht10 := ht9.ext e10
      refine Own.mono (B := w7.heap.size) ?_ e07.size
      exact Own.upd ht10 ((Upd.refl (fun x => x = w.heap.size) w10).setCells (p := ⟨w.heap.size, 0, none⟩) (fun _ => rfl) 0 _) fun c hc he => by have := ht.blk_ge hc; have := e07.size; omega
end Go.Proofs
