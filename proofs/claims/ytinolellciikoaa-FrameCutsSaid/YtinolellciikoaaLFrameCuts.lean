/- dunnagelaw06.FrameCuts: how any record is cut. Conditions: what came in is of the sizes that the form allows. -/
import Derived.Test.YtinolellciikoaaCond0
import Derived.Test.YtinolellciikoaaFrameCut
namespace Go.Proofs
open Go Go.Vc
theorem cut_txt_len {a f : Nat} {d : List UInt8} (ha : a < 2 ^ 64) (hf : f < 2 ^ 64) : ∀ t ∈ (cutF a f d).1, t.length ≤ 470 := by
  intro t ht
  unfold cutF at ht
  split at ht
  · simp at ht
  · simp only [cutL, List.mem_map] at ht
    obtain ⟨i, _, rfl⟩ := ht
    have := piece_len d i
    exact frB_len ha hf (by omega)
set_option maxRecDepth 100000 in
theorem dunnagelaw06_FrameCuts.spec {w : World} {a f : Nat} {s : SV} {d : List UInt8} (ha : a < 2 ^ 64) (hf : f < 2 ^ 64) (hs : RdB w s d) (hc : s.len ≤ s.cap) (hm : s.cap ≤ 140737488351232) :
    CallT [.one .bool] Try.prog F.dunnagelaw06_FrameCuts [.int .u64 a, .int .u64 f, .slice s.a s.len s.cap] w fun r w' => r = true ∧ Ext w w' := by
  refine dunnagelaw06_FrameCuts.vc (a : Int) (f : Int) s w _ ?_
  have hsl := hs.lenB
  refine CallT.mono (dunnagehelp_Own_byte.spec hs (by omega) 71) ?_
  rintro o w1 ⟨hol, hoc, e1, g, ho⟩
  refine CallT.mono (frame_Cut.spec ha hf ho.rd (by omega)) ?_
  rintro ⟨p, ep⟩ w2 ⟨l, hl, hlt, hle, e2⟩
  refine CallT.mono (ref06_Cut.spec ha hf (hs.ext (e1.tr e2)) hc) ?_
  rintro ⟨q, eq⟩ w3 ⟨k, hk, hkt, hke, e3⟩
  dsimp only at hl hlt hle hk hkt hke ⊢
  have hll : l.length ≤ 19 := by
    have h1 := congrArg List.length hlt
    simp only [txts, List.length_map] at h1
    rw [h1]
    unfold cutF
    split
    · simp
    · simp only [cutL, List.length_map, List.length_range]
      unfold cntF; split <;> omega
  have hkl : k.length = l.length := by
    have h1 := congrArg List.length (hlt.trans hkt.symm)
    simpa [txts] using h1.symm
  have hpl := hl.len
  have hql := hk.len
  refine ⟨fun _ w' => Ext w3 w', ?_, ?_⟩
  · refine CallT.mono (awake06.spec w3) ?_
    rintro _ w4 ⟨rfl, e4⟩
    refine cnd_neg rfl (CallT.mono (dunnagehelp_Lists.spec ((hl.rdT.ext e3).ext e4) (hk.rdT.ext e4) (by omega)) ?_)
    rintro _ w5 ⟨rfl, e5⟩
    exact cnd_neg (by rw [hlt, hkt]; simp) (cnd_neg (by rw [hle, hke]; simp) (e4.tr e5))
  rintro _ _ w4 e4
  have e04 := ((e1.tr e2).tr e3).tr e4
  have sz1 := e1.size
  have sz2 := e2.size
  have sz3 := e3.size
  have hog : g < w1.heap.size := ho.lt
  have hgw : w.heap.size ≤ g := ho.ge
  refine ⟨fun n x w' => ∃ i : Nat, x = i ∧ i ≤ l.length ∧ n = l.length - i ∧ OwnS encT 1 T.sl_uint8 w' w1.heap.size p l ∧ (∀ j (hj : j < l.length), i ≤ j → OwnB w' w1.heap.size l[j].1 l[j].2) ∧ OwnL w' w2.heap.size q k ∧ Spare w' w.heap.size T.uint8 1 o g (B8 d) [.int .u8 71, .int .u8 71, .int .u8 71] ∧ Ext w w',
    ⟨_, 0, rfl, by omega, rfl, ((hl.ext e3).ext e4).own, fun j hj _ => ((hl.ext e3).ext e4).txt _ (List.getElem_mem hj), hk.ext e4, ((ho.ext e2).ext e3).ext e4, e04⟩, ?_⟩
  rintro n _ _ w5 ⟨i, rfl, hi, rfl, h1, h2, h3, h4, e5⟩
  have hit : ∀ i : Nat, Int.toNat (i : Int) = i := fun i => Int.toNat_natCast i
  refine cnd_dec (fun hlt' => ?_) (fun hge => ?_)
  · have hil : i < l.length := by omega
    refine ⟨by omega, by omega, h1.rd.get (i := i) hil fun A hA => ⟨l[i].1, ?_, ?_⟩⟩
    · rw [hit]; exact h1.rd.at_ (List.getElem?_eq_getElem hil) hA 0 _ rfl
    have hli := h2 i hil (Nat.le_refl _)
    have hlen470 : l[i].2.length ≤ 470 := cut_txt_len ha hf _ (by rw [← hlt]; exact List.mem_map.2 ⟨_, List.getElem_mem hil, rfl⟩)
    refine CallT.mono (dunnagehelp_Spoil.spec hli (by omega)) ?_
    rintro _ w6 hu
    have hge : ∀ b, l[i].1.blk b → w1.heap.size ≤ b ∧ b < w2.heap.size := fun b hb => ⟨hli.blk_ge hb, (hl.txt _ (List.getElem_mem hil)).blk_lt hb⟩
    have g1 : OwnS encT 1 T.sl_uint8 w6 w1.heap.size p l := ⟨h1.own.upd hu fun b hb hx => hl.sep _ (List.getElem_mem hil) b hx hb, h1.esz, h1.pos⟩
    have g2 : ∀ j (hj : j < l.length), i + 1 ≤ j → OwnB w6 w1.heap.size l[j].1 l[j].2 := fun j hj hij =>
      (h2 j hj (by omega)).upd hu fun b hb hx => (List.pairwise_iff_getElem.1 hl.dis) i j hil hj (by omega) b hx hb
    have g3 : OwnL w6 w2.heap.size q k := h3.upd hu (fun b hb hx => by have := (h3.lt (.inl hb)).1; have := (hge b hx).2; omega) (fun x hx' b hb hx => by have := (h3.lt (.inr ⟨x, hx', hb⟩)).1; have := (hge b hx).2; omega)
    have g4 : Spare w6 w.heap.size T.uint8 1 o g (B8 d) [.int .u8 71, .int .u8 71, .int .u8 71] := h4.upd hu fun hb => by have := (hge g hb).1; omega
    have g5 : Ext w w6 := e5.trans hu fun z hz hb => by have := (hge z hb).1; omega
    have hw1 : IntKind.i64.wrap ((i : Int) + 1) = ((i + 1 : Nat) : Int) := by rw [i64_id (by omega) (by omega)]; simp
    rw [hw1]
    refine ⟨fun n x w' => ∃ j : Nat, x = j ∧ i + 1 ≤ j ∧ j ≤ l.length ∧ n = l.length - j ∧ Ext w6 w', ⟨_, i + 1, rfl, by omega, by omega, rfl, Upd.refl _ _⟩, ?_⟩
    rintro n _ _ w7 ⟨j, rfl, hij, hj, rfl, e7⟩
    refine cnd_dec (fun hlt'' => ?_) (fun hge' => ?_)
    · have hjl : j < l.length := by omega
      have e8 := e7.tr (ext_drew w7)
      generalize w7.drew = w8 at *
      refine ⟨by omega, by omega, (g1.ext e8).rd.get (i := j) hjl fun A hA => ⟨l[j].1, ?_, by omega, by omega, (g3.ext e8).rdT.get (i := j) (by omega) fun B hB => ⟨k[j].1, ?_, ?_⟩⟩⟩
      · rw [hit]; exact (g1.ext e8).rd.at_ (List.getElem?_eq_getElem hjl) hA 0 _ rfl
      · rw [hit]; exact (g3.ext e8).rdT.cell (List.getElem?_eq_getElem (by omega)) hB
      refine CallT.mono (dunnagehelp_Bytes.spec (((g2 j hjl hij).ext e8).rd) ((g3.ext e8).rdT.txt _ (List.getElem_mem (by omega : j < k.length)))) ?_
      rintro _ _ ⟨rfl, rfl⟩
      have heq : l[j].2 = k[j].2 := by
        have h : (txts l)[j]? = (txts k)[j]? := by rw [hlt, hkt]
        simpa [txts, List.getElem?_map, List.getElem?_eq_getElem hjl, List.getElem?_eq_getElem (by omega : j < k.length)] using h
      refine cnd_neg (by simp [heq]) ⟨l.length - (j + 1), by omega, j + 1, ?_, by omega, by omega, rfl, e8⟩
      rw [i64_id (by omega) (by omega)]; simp
    · refine ⟨l.length - (i + 1), by omega, i + 1, hw1 ▸ rfl, by omega, rfl, g1.ext e7, fun j hj hij => (g2 j hj hij).ext e7, g3.ext e7, g4.ext e7, g5.tr e7⟩
  · refine CallT.mono (dunnagehelp_Kept_byte.spec (c := 71) h4 (hs.ext e5) (by omega)) ?_
    rintro _ w6 ⟨rfl, e6⟩
    exact ⟨by simp, e5.tr e6⟩
end Go.Proofs
