/- dunnagelaw06.FrameMixed: parts of two records are no record. Conditions: what came in is of the sizes that the form allows. -/
import Derived.Test.YtinolellciikoaaCond1
import Derived.Test.YtinolellciikoaaLFrameBack
namespace Go.Proofs
open Go Go.Vc
/-! ### the plain law -/
theorem not_whole {L : List FrW} {n : Int} (h : ∀ x ∈ L, x.of = n) (hne : (L.length : Int) ≠ n) : ¬ Whole L := by
  rintro ⟨y, r, hl, hof, _⟩
  exact hne (hof.symm.trans (h y (by rw [hl]; simp)))
theorem frs_of {a f : Nat} {d : List UInt8} {L : List FrW} (hF : Frs a f d L) : ∀ x ∈ L, x.of = (cntF d.length : Int) := fun x hx => by
  obtain ⟨i, hi, rfl⟩ := List.getElem_of_mem hx
  exact (hF i hi).2.2.1
theorem cntF_lo {n : Nat} (h : 2 ≤ cntF n) : (cntF n - 1) * 440 < n := by
  by_cases h0 : n = 0
  · subst h0; simp [cntF] at h
  · rw [cntF, if_neg h0] at h ⊢; omega
theorem cntF_hi (n : Nat) : n ≤ cntF n * 440 := by
  by_cases h0 : n = 0
  · omega
  · rw [cntF, if_neg h0]; omega
theorem mixed_iff {a f a' f' : Nat} {d d' : List UInt8} {A B : List FrW} {k : Nat} (hd : d.length ≤ 8192) (hd' : d'.length ≤ 8192) (hA : A.length = cntF d.length) (hFA : Frs a f d A) (hB : B.length = cntF d'.length) (hFB : Frs a' f' d' B)
    (hk : k < A.length) (hkB : k < B.length) (h2 : 2 ≤ A.length) : WholeR (A.set k B[k]) ↔ a = a' ∧ f = f' ∧ A.length = B.length := by
  have hML : (A.set k B[k]).length = A.length := by simp
  have hMk : (A.set k B[k])[k]'(by rw [hML]; exact hk) = B[k] := by simp
  have hMj : ∀ j (hj : j < A.length), j ≠ k → (A.set k B[k])[j]'(by rw [hML]; exact hj) = A[j] := fun j hj h => by rw [List.getElem_set_ne (by omega)]
  obtain ⟨b1, b2, b3, b4⟩ := hFB k hkB
  have hc : cntF d.length ≤ 19 := by unfold cntF; split <;> omega
  generalize hM : A.set k B[k] = M at *
  constructor
  · rintro ⟨y, r, hl, _, _, _, _, hlik⟩
    have g := hlik ⟨k, by omega⟩
    obtain ⟨g1, g2, g3, _⟩ := g
    have g1' : M[k].age = y.age := g1
    have g2' : M[k].first = y.first := g2
    have g3' : M[k].of = (M.length : Int) := g3
    obtain ⟨j, hj, hjk⟩ : ∃ j, j < A.length ∧ j ≠ k := by
      by_cases h : k = 0
      · exact ⟨1, by omega, by omega⟩
      · exact ⟨0, by omega, by omega⟩
    obtain ⟨p1, p2, _, _⟩ := hlik ⟨j, by omega⟩
    have p1' : M[j].age = y.age := p1
    have p2' : M[j].first = y.first := p2
    obtain ⟨a1, a2, _, _⟩ := hFA j hj
    rw [hMk] at g1' g2' g3'
    rw [hMj j hj hjk] at p1' p2'
    refine ⟨by omega, by omega, by omega⟩
  · rintro ⟨rfl, rfl, hAB⟩
    have hcc : cntF d.length = cntF d'.length := by omega
    have hall : ∀ j (hj : j < M.length), M[j].age = a ∧ M[j].first = f ∧ M[j].of = (A.length : Int) ∧ (M[j].data = piece d j ∨ M[j].data = piece d' j) := fun j hj => by
      by_cases hjk : j = k
      · subst hjk
        rw [hMk]
        exact ⟨b1, b2, by omega, .inr b4⟩
      · rw [hMj j (by omega) hjk]
        obtain ⟨a1, a2, a3, a4⟩ := hFA j (by omega)
        exact ⟨a1, a2, by omega, .inl a4⟩
    have hlen : ∀ j (hj : j < M.length), M[j].data.length = min 440 (d.length - j * 440) ∨ M[j].data.length = min 440 (d'.length - j * 440) := fun j hj => by
      rcases (hall j hj).2.2.2 with h | h
      · left; rw [h, piece_len]
      · right; rw [h, piece_len]
    have c1 : (cntF d.length - 1) * 440 < d.length := cntF_lo (by omega)
    have c2 : d.length ≤ cntF d.length * 440 := cntF_hi _
    have c3 : (cntF d'.length - 1) * 440 < d'.length := cntF_lo (by omega)
    have c4 : d'.length ≤ cntF d'.length * 440 := cntF_hi _
    have hL : Lens (M.map (·.data)) := by
      intro i h
      have h' : i < M.length := by simpa using h
      have := hlen i h'
      simp only [List.length_map, List.getElem_map]
      generalize hx : M[i].data.length = n at *
      refine ⟨fun _ => ⟨?_, ?_⟩, fun _ => ?_⟩ <;> omega
    obtain ⟨p1, p2⟩ := pieces_of _ (by intro h; have h2 := congrArg List.length h; rw [List.length_map, List.length_nil] at h2; omega) hL
    rw [List.length_map] at p2
    have p1' : ∀ j (hj : j < M.length), M[j].data = piece (datas M) j := fun j hj => by have := p1 j (by simpa using hj); simpa using this
    have hlast := hlen (M.length - 1) (by omega)
    rw [p1' _ (by omega), piece_len] at hlast
    have hp2 : M.length = cntF (datas M).length := p2
    have q1 : (cntF (datas M).length - 1) * 440 < (datas M).length ∧ (datas M).length ≤ cntF (datas M).length * 440 := ⟨cntF_lo (by omega), cntF_hi _⟩
    have hD : (datas M).length = d.length ∨ (datas M).length = d'.length := by
      rw [← hp2, hML] at q1
      rw [hML] at hlast
      rw [← hA] at c1 c2
      rw [← hB, ← hAB] at c3 c4
      omega
    cases hl : M with
    | nil => rw [hl] at hML; simp at hML; omega
    | cons y r =>
      rw [← hl]
      have hy : M[0]'(by omega) = y := by simp [hl]
      have h0 := hall 0 (by omega)
      rw [hy] at h0
      refine ⟨y, r, hl, by omega, fun x hx => ?_, by omega, p2.symm, fun i => ?_⟩
      · obtain ⟨i, hi, rfl⟩ := List.getElem_of_mem hx
        have := hlen i hi; omega
      · obtain ⟨g1, g2, g3, _⟩ := hall i.1 i.2
        exact ⟨g1.trans h0.1.symm, g2.trans h0.2.1.symm, g3.trans (by rw [hML]), p1' i.1 i.2⟩
/-! ### the walk -/
def part (L : List FrW) (i j : Nat) : List FrW := (L.drop i).take (j - i)
theorem part_mem {L : List FrW} {i j : Nat} {x : FrW} (h : x ∈ part L i j) : x ∈ L := List.mem_of_mem_drop (List.mem_of_mem_take h)
theorem frs_src {w : World} {s : SV} {L : List FrW} (h : RdFr w s L) (hc : s.len ≤ s.cap) {i j : Nat} (hij : i ≤ j) (hj : j ≤ s.len) :
    Src Try.prog w 4 (.slice (subA s.a i 4 s.cap) (j - i) (s.cap - i)) (j - i) ((part L i j).flatMap encFr) := by
  have h1 := h.rd.rd.sub hc hij hj
  rw [flat_drop L i encFr_len, flat_take _ (j - i) encFr_len] at h1
  exact h1.src (encFr_one _)
theorem app2 {w : World} {B : Nat} {q : SV} {L : List FrW} {i1 j1 i2 j2 : Nat} {K : SV → World → Prop} {t1 t2 : TypeId} (hq : OwnFr w B q L) (hl : L.length ≤ 1000) (h1 : i1 ≤ j1) (h2 : j1 ≤ q.len) (h3 : i2 ≤ j2) (h4 : j2 ≤ q.len)
    (hk : ∀ s' w', OwnFr w' w.heap.size s' (part L i1 j1 ++ part L i2 j2) → Ext w w' → K s' w') :
    appV Try.prog [T.sl_api_Frame, T.sl_api_Frame] t1 [.slice none 0 0, .slice (subA q.a i1 4 q.cap) (j1 - i1) (q.cap - i1)] w fun s w' => appV Try.prog [T.sl_api_Frame, T.sl_api_Frame] t2 [.slice s.a s.len s.cap, .slice (subA q.a i2 4 q.cap) (j2 - i2) (q.cap - i2)] w' K := by
  have hql := hq.own.len
  have hqc := hq.own.own.cap_le
  refine app_frs (s := ⟨none, 0, 0⟩) (L := []) (Upd.refl _ w) (OwnFr.nil _ _) (frs_src hq.rd hqc h1 h2) (fun x hx => hq.ok x (part_mem hx)) (fun x hx b hb => ⟨(hq.sep x (part_mem hx) b hb).1, by rintro ⟨A, hA, _⟩; simp at hA⟩) (by simp) (by omega) ?_
  intro s' w' hs' e' _
  rw [List.nil_append] at hs'
  have hp : (part L i1 j1).length ≤ 1000 := by simp [part]; omega
  refine app_frs e' hs' (frs_src (hq.ext e').rd hqc h3 h4) (fun x hx => (hq.ext e').ok x (part_mem hx)) (fun x hx b hb => ⟨((hq.ext e').sep x (part_mem hx) b hb).1, fun hsb => ?_⟩) (by omega) (by omega) ?_
  · have := (hq.sep x (part_mem hx) b hb).1
    have := hs'.own.own.blk_ge hsb
    omega
  · intro s2 w2 g1 g2 _
    exact hk s2 w2 g1 g2
set_option maxRecDepth 100000 in
theorem dunnagelaw06_FrameMixed.spec {w : World} {a f a' f' : Nat} {at_ : Int} {s t : SV} {d d' : List UInt8} (ha : a < 2 ^ 64) (hf : f < 2 ^ 64) (hs : RdB w s d) (hc : s.len ≤ s.cap) (_hm : s.cap ≤ 140737488351232)
    (ha' : a' < 2 ^ 64) (hf' : f' < 2 ^ 64) (ht : RdB w t d') (htc : t.len ≤ t.cap) (_htm : t.cap ≤ 140737488351232) (_hat : -9223372036854775808 ≤ at_ ∧ at_ ≤ 9223372036854775807) :
    CallT [.one .bool] Try.prog F.dunnagelaw06_FrameMixed [.int .u64 a, .int .u64 f, .slice s.a s.len s.cap, .int .u64 a', .int .u64 f', .slice t.a t.len t.cap, .int .i64 at_] w fun r w' => r = true ∧ Ext w w' := by
  refine dunnagelaw06_FrameMixed.vc (a : Int) (f : Int) s (a' : Int) (f' : Int) t at_ w _ ?_
  refine CallT.mono (frame_Cut.spec ha hf hs hc) ?_
  rintro ⟨p, ep⟩ w1 ⟨l, hl, hlt, hle, e1⟩
  refine CallT.mono (frame_Cut.spec ha' hf' (ht.ext e1) htc) ?_
  rintro ⟨q, eq⟩ w2 ⟨m, hm', hmt, hme, e2⟩
  dsimp only at hl hlt hle hm' hmt hme ⊢
  have e02 := e1.tr e2
  refine ⟨fun _ w' => Ext w2 w' ∧ d.length ≤ 8192 ∧ d'.length ≤ 8192, ⟨fun b w' => Ext w2 w' ∧ (b = false → d.length ≤ 8192 ∧ d'.length ≤ 8192), CallT.mono (awake06.spec w2) ?_, ?_⟩, ?_⟩
  · rintro _ w3 ⟨rfl, e3⟩
    refine cnd_neg rfl (cnd_bne (fun h => ⟨e3, by simp⟩) fun h => ⟨e3, fun hq => ⟨?_, ?_⟩⟩)
    · rcases Nat.lt_or_ge 8192 d.length with hh | hh
      · rw [cutF, if_pos hh] at hle
        have h5 : ep = 4 := hle
        have h6 : ep = 0 := h
        rw [h5] at h6
        exact absurd h6 (by decide)
      · exact hh
    · rcases Nat.lt_or_ge 8192 d'.length with hh | hh
      · rw [cutF, if_pos hh] at hme; rw [hme] at hq; simp at hq
      · exact hh
  · rintro b _ w3 ⟨e3, hb⟩
    cases b with
    | true =>
      refine cnd_pos rfl (CallT.mono (awake06.spec w3) ?_)
      rintro _ w4 ⟨rfl, e4⟩
      exact ⟨rfl, (e02.tr e3).tr e4⟩
    | false => exact cnd_neg rfl ⟨e3, hb rfl⟩
  rintro _ _ w3 ⟨e3, hd, hd'⟩
  rw [cutF, if_neg (by omega)] at hlt hmt
  dsimp only at hlt hmt
  have hl3 := (hl.ext e2).ext e3
  have hm3 := hm'.ext e3
  refine CallT.mono (dunnagelaw06_read.spec ha hf hl3.rdT (fun x hx => (hl3.txt x hx).cap_le) hd hlt) ?_
  rintro ⟨qa, ok⟩ w4 ⟨hok, A, hA, hAL, hFA, e4⟩
  dsimp only at hok hA ⊢
  subst hok
  refine CallT.mono (dunnagelaw06_read.spec ha' hf' (hm3.ext e4).rdT (fun x hx => ((hm3.ext e4).txt x hx).cap_le) hd' hmt) ?_
  rintro ⟨qb, ok⟩ w5 ⟨hok, B, hB, hBL, hFB, e5⟩
  dsimp only at hok hB ⊢
  subst hok
  refine ⟨fun _ w' => w5 = w', cnd_neg rfl (cnd_neg rfl rfl), ?_⟩
  rintro _ _ _ rfl
  have e05 := ((e02.tr e3).tr e4).tr e5
  have hA5 := hA.ext e5
  have hal := hA.own.len
  have hbl := hB.own.len
  have hcA : A.length ≤ 19 := by rw [hAL]; unfold cntF; split <;> omega
  have hcA1 : 1 ≤ A.length := by rw [hAL]; exact cntF_pos _
  have hcB : B.length ≤ 19 := by rw [hBL]; unfold cntF; split <;> omega
  have hAc := hA.own.own.cap_le
  have hBc := hB.own.own.cap_le
  have hwl : IntKind.u64.wrap (qa.len : Int) = (A.length : Int) := by rw [u64_mod]; omega
  have hofA := frs_of hFA
  obtain ⟨k, hk, hkA⟩ : ∃ k : Nat, IntKind.i64.wrap ((IntKind.u64.wrap at_).tmod (IntKind.u64.wrap (qa.len : Int))) = k ∧ k < A.length := by
    rw [hwl]
    obtain ⟨u, hu, _⟩ : ∃ u : Nat, IntKind.u64.wrap at_ = u ∧ u < 2 ^ 64 := ⟨(IntKind.u64.wrap at_).toNat, by rw [u64_mod]; omega, by rw [u64_mod]; omega⟩
    rw [hu]
    have h1 : ((u : Int)).tmod (A.length : Int) = ((u % A.length : Nat) : Int) := by rw [Int.tmod_eq_emod_of_nonneg (by omega)]; simp
    have h2 := Nat.mod_lt u (show 0 < A.length by omega)
    exact ⟨u % A.length, by rw [h1, i64_id] <;> omega, h2⟩
  rw [hk]
  have hk1 : IntKind.i64.wrap ((k : Int) + 1) = ((k + 1 : Nat) : Int) := by rw [i64_id (by omega) (by omega)]; simp
  rw [hk1]
  simp only [Int.toNat_natCast]
  refine ⟨by rw [hwl]; omega, fun _ w' => Ext w5 w', cnd_dec (fun h1 => ?_) (fun _ => Upd.refl _ _), ?_⟩
  · have hA6 := hA5.ext (ext_drew w5)
    have e6 := ext_drew w5
    refine ⟨fun _ => True, trivial, by omega, by omega, by omega, by omega, ?_⟩
    generalize w5.drew = w6 at *
    refine app2 hA6 (by omega) (by omega) (by omega) (by omega) (by omega) ?_
    intro s' w7 hs' e7
    refine CallT.mono (frame_Join.spec hs'.rd) ?_
    rintro ⟨b, e⟩ w8 ⟨hb, he, e8⟩
    rw [joinF_no (not_whole (n := (cntF d.length : Int)) (fun x hx => by rcases List.mem_append.1 hx with hx | hx <;> exact hofA x (part_mem hx)) (by simp only [part, List.length_append, List.length_take, List.length_drop]; omega))] at he
    dsimp only at he ⊢
    exact cnd_neg (by rw [he]; rfl) ((e6.tr e7).tr e8)
  rintro _ _ w6 e6
  have hA6 := hA5.ext e6
  have hA7 := hA6.ext (ext_drew w6)
  have e67 := ext_drew w6
  refine ⟨fun _ => True, trivial, by omega, by omega, by omega, by omega, ?_⟩
  generalize w6.drew = w7 at *
  refine app2 hA7 (by omega) (by omega) (by omega) (by omega) (by omega) ?_
  intro s' w8 hs' e8
  refine CallT.mono (frame_Join.spec hs'.rd) ?_
  rintro ⟨b, e⟩ w9 ⟨hb, he, e9⟩
  rw [joinF_no (not_whole (n := (cntF d.length : Int)) (fun x hx => by rcases List.mem_append.1 hx with hx | hx <;> exact hofA x (part_mem hx)) (by simp only [part, List.length_append, List.length_take, List.length_drop]; omega))] at he
  dsimp only at he ⊢
  subst he
  have e59 := ((e6.tr e67).tr e8).tr e9
  have e09 := e05.tr e59
  refine ⟨fun _ w' => w9 = w' ∧ k < B.length, cnd_neg rfl (cnd_dec (fun h => ⟨rfl, e09⟩) fun h => ⟨rfl, by omega⟩), ?_⟩
  rintro _ _ _ ⟨rfl, hkB⟩
  have hA9 := hA5.ext e59
  have hB9 := hB.ext e59
  have hsrc : Src Try.prog w9 4 (.slice qa.a qa.len qa.cap) qa.len (A.flatMap encFr) := hA9.own.rd.rd.src (encFr_one _)
  refine app_frs (s := ⟨none, 0, 0⟩) (L := []) (Upd.refl _ w9) (OwnFr.nil _ _) hsrc hA9.ok (fun x hx b hb => ⟨(hA9.sep x hx b hb).1, by rintro ⟨A, hA, _⟩; simp at hA⟩) (by simp) (by omega) ?_
  intro s2 w10 hs2 e10 _
  rw [List.nil_append] at hs2
  have hB10 := hB9.ext e10
  have hs2l := hs2.own.len
  have hxB : B[k]? = some B[k] := List.getElem?_eq_getElem hkB
  refine ⟨by omega, by omega, hB10.own.rd.get hkB fun A' hA' => ⟨frOf B[k], hB10.own.rd.at_ hxB hA', by omega, by omega, hs2.own.rd.get (i := k) (by omega) fun A2 hA2 => ?_⟩⟩
  obtain ⟨g1, g2, g3, g4⟩ := hs2.own.setx (i := k) (by omega) hA2 B[k]
  refine ⟨g1, ?_⟩
  generalize setCells w10 (A2.add (k * 4)) 0 _ = w11 at *
  have hsep : ∀ x ∈ A.set k B[k], (RdB w10 x.s x.data ∧ x.age < 2 ^ 64 ∧ x.first < 2 ^ 64 ∧ x.data.length ≤ 140737488351232) ∧ ∀ b, x.s.blk b → b < w10.heap.size ∧ ¬ s2.blk b := by
    intro x hx
    rcases List.mem_or_eq_of_mem_set hx with hx | rfl
    · exact ⟨hs2.ok x hx, hs2.sep x hx⟩
    · refine ⟨hB10.ok _ (List.getElem_mem hkB), fun b hb => ⟨(hB10.sep _ (List.getElem_mem hkB) b hb).1, fun hsb => ?_⟩⟩
      have := (hB9.sep _ (List.getElem_mem hkB) b hb).1
      have := hs2.own.own.blk_ge hsb
      omega
  have hs11 : RdFr w11 s2 (A.set k B[k]) := ⟨g2.rd, fun x hx => ⟨(hsep x hx).1.1.upd g4 fun b hb => ((hsep x hx).2 b hb).2, (hsep x hx).1.2⟩⟩
  have e11 : Ext w9 w11 := e10.trans g4 fun b hb hsb => by have := hs2.own.own.blk_ge hsb; omega
  refine ⟨fun b w' => w11 = w' ∧ b = decide (a = a' ∧ f = f' ∧ A.length = B.length), cnd_beq (fun h1 => cnd_beq (fun h2 => ⟨rfl, ?_⟩) fun h2 => ⟨rfl, ?_⟩) fun h1 => ⟨rfl, ?_⟩, ?_⟩
  · rw [Bool.eq_iff_iff]; simp; omega
  · rw [eq_comm, decide_eq_false_iff_not]; omega
  · rw [eq_comm, decide_eq_false_iff_not]; omega
  rintro _ _ _ ⟨rfl, rfl⟩
  refine CallT.mono (frame_Join.spec hs11) ?_
  rintro ⟨b, e⟩ w12 ⟨hb, he, e12⟩
  dsimp only at he ⊢
  subst he
  have e012 := (e09.tr e11).tr e12
  refine cnd_beq (fun h => ⟨by simp, e012⟩) fun h => ⟨?_, e012⟩
  have hiff := (whole_iff hs11.slens).trans (mixed_iff hd hd' hAL hFA hBL hFB hkA hkB (by omega))
  by_cases hw : Whole (A.set k B[k])
  · rw [joinF_yes hw, decide_eq_true (hiff.1 hw)]; rfl
  · rw [joinF_no hw, decide_eq_false (fun g => hw (hiff.2 g))]; rfl
end Go.Proofs
