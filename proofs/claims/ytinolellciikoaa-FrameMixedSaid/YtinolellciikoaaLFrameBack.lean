/- dunnagelaw06.FrameBack: what is cut is joined again; what is read, written again, is the same bytes. Conditions: what came in is of the sizes that the form allows. -/
import Derived.Test.YtinolellciikoaaCond1
import Derived.Test.YtinolellciikoaaCond8
import Derived.Test.YtinolellciikoaaFrameCut
import Derived.Test.YtinolellciikoaaFrameRW
namespace Go.Proofs
open Go Go.Vc
theorem pieces_take (d : List UInt8) : ∀ n : Nat, ((List.range n).map (piece d)).flatten = d.take (n * 440)
  | 0 => by simp
  | n + 1 => by
    rw [List.range_succ, List.map_append, List.flatten_append, pieces_take d n, Nat.add_mul, Nat.one_mul, List.take_add]
    simp [piece]
theorem frs_datas {a f : Nat} {d : List UInt8} {L : List FrW} (hL : L.length = cntF d.length) (hF : Frs a f d L) : datas L = d := by
  have h : L.map (·.data) = (List.range (cntF d.length)).map (piece d) := by
    apply List.ext_getElem
    · simp [hL]
    · intro i h1 h2
      simp only [List.getElem_map, List.getElem_range]
      exact (hF i (by simpa using h1)).2.2.2
  rw [datas, h, pieces_take, List.take_of_length_le]
  unfold cntF; split <;> omega
theorem frs_whole {a f : Nat} {d : List UInt8} {L : List FrW} (hd : d.length ≤ 8192) (hL : L.length = cntF d.length) (hF : Frs a f d L) : WholeR L := by
  have hp := cntF_pos d.length
  have hdd := frs_datas hL hF
  cases hl : L with
  | nil => rw [hl] at hL; simp at hL; omega
  | cons y r =>
    rw [← hl]
    have h0 := hF 0 (by omega)
    have hy : L[0]'(by omega) = y := by simp [hl]
    rw [hy] at h0
    refine ⟨y, r, hl, ?_, fun x hx => ?_, by rw [hdd]; exact hd, by rw [hdd, hL], fun i => ?_⟩
    · rw [hL]; unfold cntF; split <;> omega
    · obtain ⟨i, hi, rfl⟩ := List.getElem_of_mem hx
      rw [(hF i hi).2.2.2, piece_len]; omega
    · obtain ⟨g1, g2, g3, g4⟩ := hF i.1 i.2
      refine ⟨g1.trans h0.1.symm, g2.trans h0.2.1.symm, g3.trans (by omega), by rw [hdd]; exact g4⟩
theorem RdFr.slens {w : World} {s : SV} {l : List FrW} (h : RdFr w s l) : ∀ x ∈ l, x.s.len = x.data.length := fun x hx => (h.ok x hx).1.lenB
theorem frs_join {w : World} {s : SV} {a f : Nat} {d : List UInt8} {L : List FrW} (h : RdFr w s L) (hd : d.length ≤ 8192) (hL : L.length = cntF d.length) (hF : Frs a f d L) : joinF L = (d, 0) := by
  rw [joinF_yes ((whole_iff h.slens).2 (frs_whole hd hL hF)), frs_datas hL hF]
set_option maxRecDepth 100000 in
theorem dunnagelaw06_read.spec {w : World} {s : SV} {l : List Txt} {a f : Nat} {d : List UInt8} (ha : a < 2 ^ 64) (hf : f < 2 ^ 64) (h : RdT w s l) (hc : ∀ x ∈ l, x.1.len ≤ x.1.cap) (hd : d.length ≤ 8192) (ht : txts l = cutL a f d (cntF d.length)) :
    CallT [.one .slice, .one .bool] Try.prog F.dunnagelaw06_read [.slice s.a s.len s.cap] w fun r w' => r.2 = true ∧ ∃ L, OwnFr w' w.heap.size r.1 L ∧ L.length = cntF d.length ∧ Frs a f d L ∧ Ext w w' := by
  refine dunnagelaw06_read.vc s w _ ?_
  have hsl := h.rd.len
  have hll : l.length = cntF d.length := by have := congrArg List.length ht; simpa [txts, cutL] using this
  have hc19 : cntF d.length ≤ 19 := by unfold cntF; split <;> omega
  refine ⟨fun m x w' => ∃ (i : Nat) (t : SV) (L : List FrW), x = (t, (i : Int)) ∧ i ≤ cntF d.length ∧ m = cntF d.length - i ∧ OwnFr w' w.heap.size t L ∧ L.length = i ∧ Frs a f d L ∧ Ext w w', ⟨_, 0, _, [], rfl, by omega, rfl, OwnFr.nil _ _, rfl, fun i h => by simp at h, Upd.refl _ _⟩, ?_⟩
  rintro m _ _ w1 ⟨i, t, L, rfl, hi, rfl, hT, hL, hF, e1⟩
  dsimp only
  refine cnd_dec (fun hlt => ?_) (fun hge => ⟨rfl, L, hT, by omega, hF, e1⟩)
  have hil : i < l.length := by omega
  have hit : Int.toNat (i : Int) = i := Int.toNat_natCast i
  have htx : l[i].2 = frB a f (cntF d.length : Int) (piece d i) := by
    have h1 : (txts l)[i]? = (cutL a f d (cntF d.length))[i]? := by rw [ht]
    simpa [txts, cutL, List.getElem?_map, List.getElem?_eq_getElem hil, List.getElem?_range (by omega : i < cntF d.length)] using h1
  have hmay := cut_may hd i
  have hpl := piece_len d i
  have hrd := (h.ext e1).txt _ (List.getElem_mem hil)
  have hfl := frB_len (of := (cntF d.length : Int)) (d := piece d i) ha hf (by omega)
  rw [htx] at hrd
  refine ⟨by omega, by omega, (h.ext e1).get hil fun A hA => ⟨l[i].1, by rw [hit]; exact (h.ext e1).cell (List.getElem?_eq_getElem hil) hA, CallT.mono (frame_Read.spec hrd (hc _ (List.getElem_mem hil)) (by omega)) ?_⟩⟩
  rintro ⟨⟨p0, p1, p2, pt⟩, pe⟩ w2 ⟨q0, q1, q2, q3, q4, e2⟩
  rw [readR_frB ha hf hmay] at q0 q1 q2 q3 q4
  dsimp only at q0 q1 q2 q3 q4 ⊢
  subst q0 q1 q2 q4
  generalize hc3 : w2.alloc _ = w3
  generalize hd3 : setCells w3 _ 0 _ = w4
  obtain ⟨c4, b4, e4, z4⟩ := bk_mk (T := T.api_Frame) (z := zFr) (vs := frV ((a : Int), (f : Int), (cntF d.length : Int), pt)) hc3 hd3 rfl
  have e04 := (e1.tr e2).tr e4
  refine ⟨c4, cnd_neg rfl ⟨((a : Int), (f : Int), (cntF d.length : Int), pt), b4.all, ?_⟩⟩
  refine app_fr (x := ⟨a, f, (cntF d.length : Int), pt, piece d i⟩) e04 ((hT.ext e2).ext e4) ⟨(q3.ext e4).rd, ha, hf, by simp only; omega⟩ (fun b hb => ⟨(q3.ext e4).blk_lt hb, fun hs => ?_⟩) (by omega) ?_
  · have := q3.blk_ge hb
    have := hT.own.own.blk_lt hs
    omega
  intro t' w5 ht' e5 _
  refine ⟨cntF d.length - (i + 1), by omega, i + 1, t', _, ?_, by omega, rfl, ht', by simp [hL], ?_, e5⟩
  · rw [i64_id (by omega) (by omega)]; simp
  intro j hj
  by_cases hjl : j < L.length
  · rw [List.getElem_append_left hjl]; exact hF j hjl
  · have hj' : j = L.length := by simp at hj; omega
    subst hj'
    simp [hL]
set_option maxRecDepth 100000 in
theorem dunnagelaw06_FrameBack.spec {w : World} {a f : Nat} {s t : SV} {d y : List UInt8} (ha : a < 2 ^ 64) (hf : f < 2 ^ 64) (hs : RdB w s d) (hc : s.len ≤ s.cap) (_hm : s.cap ≤ 140737488351232) (ht : RdB w t y) (htc : t.len ≤ t.cap) (htm : t.cap ≤ 140737488351232) :
    CallT [.one .bool] Try.prog F.dunnagelaw06_FrameBack [.int .u64 a, .int .u64 f, .slice s.a s.len s.cap, .slice t.a t.len t.cap] w fun r w' => r = true ∧ Ext w w' := by
  refine dunnagelaw06_FrameBack.vc (a : Int) (f : Int) s t w _ ?_
  have hsl := hs.lenB
  have htl := ht.lenB
  refine CallT.mono (frame_Cut.spec ha hf hs hc) ?_
  rintro ⟨p, ep⟩ w1 ⟨l, hl, hlt, hle, e1⟩
  dsimp only at hl hlt hle ⊢
  refine ⟨fun _ w' => Ext w1 w', CallT.mono (awake06.spec w1) ?_, ?_⟩
  · rintro _ w2 ⟨rfl, e2⟩
    refine cnd_neg rfl (cnd_neg ?_ e2)
    rw [hle]
    by_cases hd : 8192 < d.length
    · have : ¬ ((s.len : Int) ≤ 8192) := by omega
      rw [cutF, if_pos hd]; simp only [this, decide_false]; rfl
    · have : ((s.len : Int) ≤ 8192) := by omega
      rw [cutF, if_neg hd]; simp only [this, decide_true]; rfl
  rintro _ _ w2 e2
  have e02 := e1.tr e2
  refine ⟨fun _ w' => Ext w w', ?_, ?_⟩
  · refine cnd_beq (fun h0 => ?_) (fun h0 => e02)
    have hd : d.length ≤ 8192 := by
      rcases Nat.lt_or_ge 8192 d.length with h | h
      · rw [cutF, if_pos h] at hle
        have h5 : ep = 4 := hle
        have h6 : ep = 0 := h0
        rw [h5] at h6
        exact absurd h6 (by decide)
      · exact h
    rw [cutF, if_neg (by omega)] at hlt
    dsimp only at hlt
    have hll : l.length = cntF d.length := by have := congrArg List.length hlt; simpa [txts, cutL] using this
    have hc19 : cntF d.length ≤ 19 := by unfold cntF; split <;> omega
    have hl2 := hl.ext e2
    refine CallT.mono (dunnagelaw06_read.spec ha hf hl2.rdT (fun x hx => (hl2.txt x hx).cap_le) hd hlt) ?_
    rintro ⟨q, ok⟩ w3 ⟨hok, L, hq, hL, hF, e3⟩
    dsimp only at hok hq ⊢
    subst hok
    have hql := hq.own.len
    have hpl := hl.len
    have e03 := e02.tr e3
    refine ⟨fun _ w' => w3 = w', cnd_neg rfl (CallT.mono (frame_Count.spec (s.len : Int) ⟨by omega, by omega⟩ w3) ?_), ?_⟩
    · rintro _ _ ⟨rfl, rfl⟩
      refine cnd_neg ?_ rfl
      rw [hsl, cntF_eq, hql, hL]
      simp
    rintro _ _ _ rfl
    refine CallT.mono (frame_Join.spec hq.rd) ?_
    rintro ⟨b, e⟩ w4 ⟨hb, he, e4⟩
    rw [frs_join hq.rd hd hL hF] at hb he
    dsimp only at hb he ⊢
    subst he
    have e04 := e03.tr e4
    refine ⟨fun _ w' => w4 = w', cnd_neg rfl (CallT.mono (dunnagehelp_Bytes.spec hb.rd (hs.ext e04)) ?_), ?_⟩
    · rintro _ _ ⟨rfl, rfl⟩
      exact cnd_neg (by simp) rfl
    rintro _ _ _ rfl
    have hl4 := (hl2.ext e3).ext e4
    have hq4 := hq.ext e4
    refine ⟨fun n x w' => w4 = w' ∧ ∃ i : Nat, x = i ∧ i ≤ l.length ∧ n = l.length - i, ⟨_, rfl, 0, rfl, by omega, rfl⟩, ?_⟩
    rintro n _ _ _ ⟨rfl, i, rfl, hi, rfl⟩
    have hit : Int.toNat (i : Int) = i := Int.toNat_natCast i
    refine cnd_dec (fun hlt' => ?_) (fun _ => e04)
    have hil : i < l.length := by omega
    have hiL : i < L.length := by omega
    obtain ⟨f1, f2, f3, f4⟩ := hF i hiL
    have htx : l[i].2 = frB a f (cntF d.length : Int) (piece d i) := by
      have h1 : (txts l)[i]? = (cutL a f d (cntF d.length))[i]? := by rw [hlt]
      simpa [txts, cutL, List.getElem?_map, List.getElem?_eq_getElem hil, List.getElem?_range (by omega : i < cntF d.length)] using h1
    have hpl := piece_len d i
    have hfl := frB_len (of := (cntF d.length : Int)) (d := piece d i) ha hf (by omega)
    have hxl := (hl4.txt _ (List.getElem_mem hil)).lenB
    rw [htx] at hxl
    have hx := List.getElem?_eq_getElem hiL
    refine ⟨by omega, by omega, hl4.rdT.get hil fun A hA => ⟨l[i].1, by rw [hit]; exact hl4.rdT.cell (List.getElem?_eq_getElem hil) hA, cnd_dec (fun h => by omega) fun _ => ?_⟩⟩
    refine ⟨by omega, by omega, hq4.own.rd.get hiL fun A hA => ⟨(L[i].age : Int), by rw [hit]; exact hq4.own.rd.at_ hx hA 0 _ rfl, cnd_neg (by rw [f1]; simp) ?_⟩⟩
    refine ⟨by omega, by omega, hq4.own.rd.get hiL fun A hA => ⟨(L[i].first : Int), by rw [hit]; exact hq4.own.rd.at_ hx hA 1 _ rfl, cnd_neg (by rw [f2]; simp) ?_⟩⟩
    refine ⟨by omega, by omega, hq4.own.rd.get hiL fun A hA => ⟨L[i].of, by rw [hit]; exact hq4.own.rd.at_ hx hA 2 _ rfl, cnd_neg (by rw [f3, hl.len, hll]; simp) ?_⟩⟩
    refine ⟨l.length - (i + 1), by omega, rfl, i + 1, ?_, by omega, rfl⟩
    rw [i64_id (by omega) (by omega)]; simp
  rintro _ _ w3 e3
  refine CallT.mono (frame_Read.spec (ht.ext e3) htc (by omega)) ?_
  rintro ⟨⟨p0, p1, p2, pt⟩, pe⟩ w4 ⟨q0, q1, q2, q3, q4, e4⟩
  dsimp only at q0 q1 q2 q3 q4 ⊢
  generalize hc5 : w4.alloc _ = w5
  generalize hd5 : setCells w5 _ 0 _ = w6
  obtain ⟨c6, b6, e6, z6⟩ := bk_mk (T := T.api_Frame) (z := zFr) (vs := frV (p0, p1, p2, pt)) hc5 hd5 rfl
  have e06 := (e3.tr e4).tr e6
  refine ⟨c6, cnd_bne (fun h => ⟨rfl, e06⟩) fun h => ?_⟩
  have hR : readR y = ((p0, p1, p2, (readR y).1.2.2.2), 0) := by
    rw [q0, q1, q2]
    exact Prod.ext rfl (by rw [← q4, h])
  obtain ⟨x1, x2, rfl, rfl, hx1, hx2, hmay, hfr⟩ := frB_readR hR
  refine ⟨((x1 : Int), (x2 : Int), p2, pt), b6.all, CallT.mono (frame_Write.spec hx1 hx2 (of := p2) (q3.ext e6).rd) ?_⟩
  rintro ⟨o, e⟩ w7 ⟨ho, he, e7⟩
  rw [wrF, if_pos hmay, hfr] at ho he
  dsimp only at ho he ⊢
  subst he
  refine cnd_pos rfl (CallT.mono (dunnagehelp_Bytes.spec ho.rd (ht.ext (e06.tr e7))) ?_)
  rintro _ _ ⟨rfl, rfl⟩
  exact ⟨by simp, e06.tr e7⟩
end Go.Proofs
