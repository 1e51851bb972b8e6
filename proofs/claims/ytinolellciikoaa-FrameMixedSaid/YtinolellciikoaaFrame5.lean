/- frame.Read: what any bytes are as a frame. Conditions: those of each contract. -/
import Derived.Test.YtinolellciikoaaCond7
import Derived.Test.YtinolellciikoaaFrame4
namespace Go.Proofs
open Go Go.Vc
theorem numR_ofOk {l : List UInt8} {a v n : Int} (h : readVar l a = (v, n, 0)) : numR l a 0 = (v, n, 0) := by rw [numR, if_neg (by simp), h, if_neg (by simp)]
theorem numR_ofBad {l : List UInt8} {a v n e : Int} (h : readVar l a = (v, n, e)) (he : e ≠ 0) : numR l a 0 = (0, a, e) := by rw [numR, if_neg (by simp), h, if_pos he]
theorem numR_err (l : List UInt8) (a : Int) {e : Int} (he : e ≠ 0) : numR l a e = (0, a, e) := by rw [numR, if_pos he]
theorem mostR_err (l : List UInt8) (a n : Int) {e : Int} (he : e ≠ 0) : mostR l a e n = (0, a, e) := by rw [mostR, numR_err l a he, if_pos he]
/-- Where the loop stands: so many words are read. -/
def Stand (l : List UInt8) (i : Nat) (at_ v0 v1 v2 : Int) : Prop :=
  (i = 0 ∧ at_ = 0 ∧ v0 = 0 ∧ v1 = 0 ∧ v2 = 0) ∨ (i = 1 ∧ v1 = 0 ∧ v2 = 0 ∧ readVar l 0 = (v0, at_, 0)) ∨
  (i = 2 ∧ v2 = 0 ∧ ∃ p, readVar l 0 = (v0, p, 0) ∧ readVar l p = (v1, at_, 0)) ∨ (i = 3 ∧ ∃ p q, readVar l 0 = (v0, p, 0) ∧ readVar l p = (v1, q, 0) ∧ readVar l q = (v2, at_, 0))
theorem Stand.rng {l : List UInt8} {i : Nat} {a v0 v1 v2 : Int} (h : Stand l i a v0 v1 v2) : 0 ≤ a ∧ a ≤ l.length ∧ 0 ≤ v0 ∧ 0 ≤ v1 ∧ 0 ≤ v2 ∧ v2 < 18446744073709551616 := by
  rcases h with ⟨_, rfl, rfl, rfl, rfl⟩ | ⟨_, rfl, rfl, h0⟩ | ⟨_, rfl, p, h0, h1⟩ | ⟨_, p, q, h0, h1, h2⟩
  · exact ⟨by omega, by omega, by omega, by omega, by omega, by omega⟩
  · obtain ⟨i, j, u, g1, g2, g3, g4, g5, g6⟩ := readVar_ok h0
    exact ⟨by omega, by omega, by omega, by omega, by omega, by omega⟩
  · obtain ⟨_, _, _, _, _, _, _, _, _⟩ := readVar_ok h0
    obtain ⟨i, j, u, g1, g2, g3, g4, g5, g6⟩ := readVar_ok h1
    exact ⟨by omega, by omega, by omega, by omega, by omega, by omega⟩
  · obtain ⟨_, _, _, _, _, _, _, _, _⟩ := readVar_ok h0
    obtain ⟨_, _, _, _, _, _, _, _, _⟩ := readVar_ok h1
    obtain ⟨i, j, u, g1, g2, g3, g4, g5, g6⟩ := readVar_ok h2
    exact ⟨by omega, by omega, by omega, by omega, by omega, by omega⟩
theorem Stand.bad {l : List UInt8} {i : Nat} {a v0 v1 v2 v n e : Int} (h : Stand l i a v0 v1 v2) (hi : i < 3) (hr : readVar l a = (v, n, e)) (he : e ≠ 0) : readR l = ((0, 0, 0, []), e) := by
  rcases h with ⟨_, rfl, rfl, rfl, rfl⟩ | ⟨_, rfl, rfl, h0⟩ | ⟨_, rfl, p, h0, h1⟩ | ⟨h3, _⟩
  · simp only [readR, numR_ofBad hr he, numR_err l _ he, mostR_err l _ _ he]
    rw [if_pos he]
  · simp only [readR, numR_ofOk h0, numR_ofBad hr he, mostR_err l _ _ he]
    rw [if_pos he]
  · simp only [readR, numR_ofOk h0, numR_ofOk h1, mostR, numR_ofBad hr he]
    rw [if_pos he, if_pos he]
  · omega
theorem Stand.next {l : List UInt8} {i : Nat} {a v0 v1 v2 v n : Int} (h : Stand l i a v0 v1 v2) (hi : i < 3) (hr : readVar l a = (v, n, 0)) :
    Stand l (i + 1) n (if i = 0 then v else v0) (if i = 1 then v else v1) (if i = 2 then v else v2) := by
  rcases h with ⟨rfl, rfl, rfl, rfl, rfl⟩ | ⟨rfl, rfl, rfl, h0⟩ | ⟨rfl, rfl, p, h0, h1⟩ | ⟨h3, _⟩
  · exact .inr (.inl ⟨rfl, rfl, rfl, hr⟩)
  · exact .inr (.inr (.inl ⟨rfl, rfl, a, h0, hr⟩))
  · exact .inr (.inr (.inr ⟨rfl, p, a, h0, h1, hr⟩))
  · omega
theorem Stand.all {l : List UInt8} {a v0 v1 v2 : Int} (h : Stand l 3 a v0 v1 v2) :
    readR l = if mayF (min v2 33) (l.drop a.toNat).length = true then ((v0, v1, min v2 33, l.drop a.toNat), 0) else ((0, 0, 0, []), 11) := by
  have hr := h.rng
  rcases h with ⟨h3, _⟩ | ⟨h3, _⟩ | ⟨h3, _⟩ | ⟨_, p, q, h0, h1, h2⟩
  · omega
  · omega
  · omega
  · simp only [readR, numR_ofOk h0, numR_ofOk h1]
    by_cases hv : v2 > 32
    · have hm : mostR l q 0 32 = (0, a, 11) := by rw [mostR, numR_ofOk h2, if_neg (by simp), if_pos hv]
      rw [hm, if_pos (by simp), if_neg]
      have : min v2 33 = 33 := Int.min_eq_right (by omega)
      rw [this]
      simp [mayF]
    · have hm : mostR l q 0 32 = (v2, a, 0) := by rw [mostR, numR_ofOk h2, if_neg (by simp), if_neg hv]
      have h33 : min v2 33 = v2 := Int.min_eq_left (by omega)
      rw [hm, if_neg (by simp), h33]
      cases mayF v2 (l.drop a.toNat).length <;> simp
@[reducible] def arr3 (v0 v1 v2 : Int) : List Value := [.int .u64 v0, .int .u64 v1, .int .u64 v2]
theorem arr3_set {v0 v1 v2 v : Int} {i : Nat} (hi : i < 3) : (arr3 v0 v1 v2).set i (.int .u64 v) = arr3 (if i = 0 then v else v0) (if i = 1 then v else v1) (if i = 2 then v else v2) := by
  match i, hi with
  | 0, _ => rfl
  | 1, _ => rfl
  | 2, _ => rfl
set_option maxRecDepth 100000 in
theorem frame_Read.spec {w : World} {s : SV} {l : List UInt8} (hs : RdB w s l) (hc : s.len ≤ s.cap) (hl : l.length ≤ 140737488351232) :
    CallT [.agg [.int .u64, .int .u64, .int .i64, .slice], .one (.int .i64)] Try.prog F.frame_Read [.slice s.a s.len s.cap] w fun r w' => FrAns (readR l) w r w' := by
  refine frame_Read.vc s w _ ?_
  have hsl := hs.lenB
  generalize hc1 : w.alloc _ = w1
  obtain ⟨b1, e1, z1⟩ := bk_new (T := T.api_Frame) (vs := zFr) hc1
  dsimp only
  generalize hc2 : w1.alloc _ = w2
  obtain ⟨b2, e2, z2⟩ := bk_new (T := T.a3_uint64) (vs := arr3 0 0 0) hc2
  have e02 : Ext w w2 := e1.trans e2 fun _ _ h => h
  refine ⟨fun m x w' => ∃ (i : Nat) (a v0 v1 v2 : Int), x = (a, (i : Int)) ∧ i ≤ 3 ∧ m = 3 - i ∧ Stand l i a v0 v1 v2 ∧ Ext w w' ∧ BK w' w.heap.size T.api_Frame zFr ∧ BK w' w1.heap.size T.a3_uint64 (arr3 v0 v1 v2), ⟨_, 0, 0, 0, 0, 0, rfl, by omega, rfl, .inl ⟨rfl, rfl, rfl, rfl, rfl⟩, e02, b1.ext e2, b2⟩, ?_⟩
  rintro m _ _ w3 ⟨i, a, v0, v1, v2, rfl, hi, rfl, hst, e3, k3, r3⟩
  dsimp only
  have hrg := hst.rng
  refine cnd_dec (fun hlt => ?_) (fun hge => ?_)
  · have hi3 : i < 3 := by omega
    have hw : IntKind.i64.wrap ((i : Int) + 1) = ((i + 1 : Nat) : Int) := by rw [i64_id] <;> omega
    refine CallT.mono (word_ReadVar.spec (hs.ext e3) (by omega) a (by omega)) ?_
    rintro ⟨v, n, e⟩ w4 ⟨he, e4⟩
    dsimp only
    have e04 : Ext w w4 := e3.trans e4 fun _ _ h => h
    have k4 := k3.ext e4
    have r4 := r3.ext e4
    refine cnd_bne (fun hne => ?_) (fun heq => ?_)
    · rw [hst.bad hi3 he.symm hne]
      obtain ⟨j1, j2, j3, j4, j5⟩ := bk_put (us := zFr) k4 e04 (Nat.le_refl _) rfl rfl
      exact ⟨j1, (0, 0, 0, ⟨none, 0, 0⟩), j2.all, rfl, rfl, rfl, Own.nil _ _ _ _, rfl, j3⟩
    · subst heq
      obtain ⟨c1, c2, c3⟩ := r4.store i (by simpa using hi3) (.int .u64 v)
      rw [arr3_set hi3] at c3
      refine ⟨by omega, by omega, ?_⟩
      rw [Int.toNat_natCast, Nat.mul_one]
      have u5 : Upd (fun x => x = w1.heap.size) w4 (w4.setCell (Addr.add ⟨w1.heap.size, 0, none⟩ i) (.int .u64 v)) := (Upd.refl _ w4).set (p := Addr.add ⟨w1.heap.size, 0, none⟩ i) (fun _ => by simp) _
      exact ⟨c1, c2, 3 - (i + 1), by omega, i + 1, n, _, _, _, by rw [hw], by omega, rfl, hst.next hi3 he.symm, e04.trans u5 fun x hx he => absurd hx (by omega), k4.upd u5 (by omega), c3⟩
  · have : i = 3 := by omega
    subst this
    have hall := hst.all
    have hmin : IntKind.i64.wrap (min v2 33) = min v2 33 := by rw [i64_id] <;> omega
    have w13 := r3.lt
    have w03 := k3.lt
    refine ⟨fun x w' => ∃ c t, x = some (⟨c, 0, none⟩ : Addr) ∧ BK w' c T.api_Frame [.int .u64 v0, .int .u64 v1, .int .i64 (min v2 33), .slice t.a t.len t.cap] ∧ OwnB w' w3.heap.size t (l.drop a.toNat) ∧ Ext w w' ∧ BK w' w.heap.size T.api_Frame zFr ∧ w.heap.size < c, ?_, ?_⟩
    · have e3d : Ext w w3.drew := e3.trans (ext_drew _) fun _ _ h => h
      have rd : BK w3.drew w1.heap.size T.a3_uint64 (arr3 v0 v1 v2) := r3
      have kd : BK w3.drew w.heap.size T.api_Frame zFr := k3
      have hsub := (hs.ext e3d).subB hc (i := a.toNat) (j := l.length) (by omega) (Nat.le_refl _)
      rw [← hsl] at hsub
      have htk : (l.drop a.toNat).take (s.len - a.toNat) = l.drop a.toNat := by rw [List.take_of_length_le]; rw [List.length_drop]; omega
      rw [htk] at hsub
      refine ⟨fun w' => BK w' w1.heap.size T.a3_uint64 (arr3 v0 v1 v2), rd, by omega, by omega, v0, fun _ h => h.get 0 rfl, by omega, by omega, v1, fun _ h => h.get 1 rfl, by omega, by omega, v2, fun _ h => h.get 2 rfl, by omega, by omega, ?_, ?_⟩
      · refine CallT.mono (slices_Clone_byte_byte.spec hsub (by rw [List.length_drop]; omega)) ?_
        rintro t w4 ⟨ht, e4, _⟩
        refine ⟨rd.ext e4, ?_⟩
        rw [hmin]
        have e04 : Ext w w4 := e3d.trans e4 fun _ _ h => h
        have z4 := e4.size
        have z4' : w3.heap.size ≤ w4.heap.size := z4
        generalize hc5 : w4.alloc _ = w5
        have b5 : BK w5 w1.heap.size T.a3_uint64 (arr3 v0 v1 v2) := by rw [← hc5]; exact (rd.ext e4).alloc _
        refine ⟨b5, ?_⟩
        generalize hd5 : setCells w5 _ 0 _ = w6
        obtain ⟨c6, b6, e6, z6⟩ := bk_mk (T := T.api_Frame) (z := zFr) (vs := [.int .u64 v0, .int .u64 v1, .int .i64 (min v2 33), .slice t.a t.len t.cap]) hc5 hd5 rfl
        exact ⟨c6, w4.heap.size, t, rfl, b6, Own.ext ht e6, e04.trans e6 fun _ _ h => h, (kd.ext e4).ext e6, by omega⟩
      · generalize hc5 : w3.drew.alloc _ = w5
        obtain ⟨b5, e5, z5⟩ := bk_new (T := T.api_Frame) (vs := zFr) hc5
        refine ⟨rd.ext e5, CallT.mono (slices_Clone_byte_byte.spec (hsub.ext e5) (by rw [List.length_drop]; omega)) ?_⟩
        rintro t w6 ⟨ht, e6, _⟩
        refine ⟨(rd.ext e5).ext e6, ?_⟩
        rw [hmin]
        have e56 : Ext w3.drew w6 := e5.trans e6 fun _ _ h => h
        obtain ⟨j1, j2, j3, j4, j5⟩ := bk_put (us := [.int .u64 v0, .int .u64 v1, .int .i64 (min v2 33), .slice t.a t.len t.cap]) (b5.ext e6) e56 (Nat.le_refl _) rfl rfl
        have hd3 : w3.drew.heap.size = w3.heap.size := rfl
        refine ⟨j1, w3.drew.heap.size, t, rfl, j2, ?_, e3d.trans j3 fun _ _ h => h, j5 _ _ _ (by omega) (kd.ext e56), by omega⟩
        refine Own.mono (B := w5.heap.size) ?_ (by omega)
        exact Own.upd ht ((Upd.refl (fun x => x = w3.drew.heap.size) w6).setCells (p := ⟨w3.drew.heap.size, 0, none⟩) (fun _ => rfl) 0 _) fun c hc he => by have := ht.blk_ge hc; omega
    rintro _ _ w4 ⟨c, t, rfl, b4, ht, e4, k4, hcw⟩
    have htl := ht.lenB
    refine ⟨(v0, v1, min v2 33, t), b4.all, CallT.mono (frame_may.spec (v0, v1, min v2 33, t) w4) ?_⟩
    rintro _ w5 ⟨rfl, e5⟩
    dsimp only
    rw [htl, hall]
    have e05 : Ext w w5 := e4.trans e5 fun _ _ h => h
    refine cnd_not (fun hm => ?_) (fun hm => ?_)
    · rw [if_neg (by rw [hm]; simp)]
      obtain ⟨j1, j2, j3, j4, j5⟩ := bk_put (us := zFr) (k4.ext e5) e05 (Nat.le_refl _) rfl rfl
      exact ⟨j1, (0, 0, 0, ⟨none, 0, 0⟩), j2.all, rfl, rfl, rfl, Own.nil _ _ _ _, rfl, j3⟩
    · rw [if_pos hm]
      obtain ⟨j1, j2, j3, j4, j5⟩ := bk_put (us := frV (v0, v1, min v2 33, t)) (k4.ext e5) e05 (Nat.le_refl _) rfl rfl
      refine ⟨(v0, v1, min v2 33, t), (b4.ext e5).all, j1, (v0, v1, min v2 33, t), j2.all, rfl, rfl, rfl, ?_, rfl, j3⟩
      refine Own.mono (B := w3.heap.size) ?_ e3.size
      exact Own.upd (Own.ext ht e5) ((Upd.refl (fun x => x = w.heap.size) w5).setCells (p := ⟨w.heap.size, 0, none⟩) (fun _ => rfl) 0 _) fun c hc he => by have := ht.blk_ge hc; omega
end Go.Proofs
