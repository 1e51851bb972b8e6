/- The walks of dunnagelaw01.WordTexts, WordOneForm: each answers true, and turns nothing that was there. Conditions: what came in is of the sizes that the form allows; for WordOneForm: that they are small. -/
import Derived.Test.YtbnnpnillppdhaaWordRead
namespace Go.Proofs
open Go Go.Vc
theorem readText_len (l : List UInt8) (a m : Int) : (readText l a m).1.length ≤ l.length := by
  unfold readText
  split
  split
  · simp
  · split
    · simp
    · split
      · simp
      · simp only [List.length_take, List.length_drop]; omega
theorem textB_len {l : List UInt8} (h : l.length < 2 ^ 64) : (textB l).length ≤ l.length + 10 := by
  have := varB_10 h
  rw [textB, List.length_append]; omega
theorem dunnagelaw01_WordTexts.spec {t s : SV} {k l : List UInt8} {a m : Int} {w : World} (ht : RdB w t k) (htc : t.len ≤ t.cap) (htm : t.cap ≤ 140737488351232) (hs : RdB w s l) (hc : s.len ≤ s.cap) (hm : s.cap ≤ 140737488351232) (ha : -9223372036854775808 ≤ a ∧ a ≤ 9223372036854775807) (hmm : -9223372036854775808 ≤ m ∧ m ≤ 9223372036854775807) :
    CallT [.one .bool] Try.prog F.dunnagelaw01_WordTexts [.slice t.a t.len t.cap, .slice s.a s.len s.cap, .int .i64 a, .int .i64 m] w fun r w' => r = true ∧ Ext w w' := by
  refine dunnagelaw01_WordTexts.vc t s a m w _ ?_
  have hsl := hs.lenB
  have htl := ht.lenB
  have c1 := dunnagehelp_Own_byte.spec hs (by omega) 71
  refine CallT.mono c1 ?_
  rintro x w1 ⟨hxl, hxc, e1, b1, hx⟩
  have c2 := dunnagehelp_Own_byte.spec (ht.ext e1) (by omega) 71
  refine CallT.mono c2 ?_
  rintro y w2 ⟨hyl, hyc, e2, b2, hy⟩
  have c3 := word_Text.spec hy.rd (by omega)
  refine CallT.mono c3 ?_
  rintro z w3 ⟨hz, e3, _⟩
  have hx3 := (hx.ext e2).ext e3
  have c4 := word_ReadText.spec hx3.rd (by omega) (by omega) a m ha.2 hmm.2
  refine CallT.mono c4 ?_
  rintro ⟨q, n, e⟩ w4 ⟨hq, hqe, e4⟩
  have hs4 := (((hs.ext e1).ext e2).ext e3).ext e4
  have c5 := dunnageref01_ReadText.spec hs4 hc (by omega) a m ha.2 hmm.2
  refine CallT.mono c5 ?_
  rintro ⟨q', n', e'⟩ w5 ⟨hq', hqe', e5⟩
  dsimp only at hq hq' ⊢
  have h5 : Ext w w5 := (((e1.tr e2).tr e3).tr e4).tr e5
  refine ⟨fun _ w' => Ext w5 w', ?_, ?_⟩
  · have c6 := dunnagelaw01_awake.spec w5
    refine CallT.mono c6 ?_
    rintro _ w6 ⟨rfl, e6⟩
    have h6 := h5.tr e6
    have c7 := dunnageref01_Text.spec (ht.ext h6) (by omega)
    refine cnd_false (CallT.mono c7 ?_)
    rintro z' w7 ⟨hz', e7, _⟩
    have c8 := dunnagehelp_Bytes.spec ((((hz.rd.ext e4).ext e5).ext e6).ext e7) hz'.rd
    refine CallT.mono c8 ?_
    rintro _ _ ⟨rfl, rfl⟩
    have c9 := dunnagehelp_Bytes.spec (((hq.rd.ext e5).ext e6).ext e7) ((hq'.rd.ext e6).ext e7)
    refine cnd_neg (by simp) (CallT.mono c9 ?_)
    rintro _ _ ⟨rfl, rfl⟩
    have hne := hqe.trans hqe'.symm
    simp only [Prod.mk.injEq] at hne
    obtain ⟨rfl, rfl⟩ := hne
    have c10 := word_Zero.spec ((((hx3.ext e4).ext e5).ext e6).ext e7).rd (by omega)
    refine cnd_neg (by simp) (cnd_neg (by simp) (cnd_neg (by simp) (CallT.mono c10 ?_)))
    rintro _ w8 ⟨rfl, e8⟩
    have c11 := dunnageref01_Zero.spec (hs.ext ((h6.tr e7).tr e8)) (by omega)
    refine CallT.mono c11 ?_
    rintro _ _ ⟨rfl, rfl⟩
    exact cnd_neg (by simp) ((e6.tr e7).tr e8)
  · rintro _ _ w6 e6
    have hq6 := (Own.ext hq e5).ext e6
    have c6 := dunnagehelp_Spoil.spec hq6 (by have := readText_len l a m; omega)
    refine CallT.mono c6 ?_
    rintro _ w7 u7
    have hge7 : ∀ b, SV.blk q b → w3.heap.size ≤ b := fun b hb => hq.blk_ge hb
    have hz6 := ((Own.ext hz e4).ext e5).ext e6
    have hz7 := hz6.upd u7 fun b hb hM => by have := hge7 b hM; have := hz.blk_lt hb; omega
    have c7 := dunnagehelp_Spoil.spec hz7 (by have := textB_len (l := k) (by omega); omega)
    refine CallT.mono c7 ?_
    rintro _ w8 u8
    have hge8 : ∀ b, SV.blk z b → w2.heap.size ≤ b := fun b hb => hz.blk_ge hb
    have hle : w2.heap.size ≤ w3.heap.size := e3.size
    have h6 : Ext w w6 := h5.tr e6
    have h12 : w.heap.size ≤ w2.heap.size := (e1.tr e2).size
    have u68 : Upd (fun b => w2.heap.size ≤ b) w6 w8 := (u7.mono fun b _ hb => Nat.le_trans hle (hge7 b hb)).trans u8 fun b _ hb => hge8 b hb
    have h8 : Ext w w8 := h6.trans u68 fun b hb hM => by omega
    have hx8 := (((hx3.ext e4).ext e5).ext e6).upd u68 (by have := hx.lt; have := e2.size; omega)
    have hy8 := ((((hy.ext e3).ext e4).ext e5).ext e6).upd u68 (by have := hy.lt; omega)
    have c8 := dunnagehelp_Kept_byte.spec (c := 71) hx8 (hs.ext h8) (by omega)
    refine CallT.mono c8 ?_
    rintro _ w9 ⟨rfl, e9⟩
    have c9 := dunnagehelp_Kept_byte.spec (c := 71) (hy8.ext e9) ((ht.ext h8).ext e9) (by omega)
    refine cnd_pos (by simp) (CallT.mono c9 ?_)
    rintro _ w10 ⟨rfl, e10⟩
    exact ⟨by simp, (h8.tr e9).tr e10⟩
end Go.Proofs
