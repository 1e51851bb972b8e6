/- Lists of texts held against each other; frame.Cut and the document's. Conditions: those of each contract. -/
import Derived.Test.YtinolellciikoaaCond7
import Derived.Test.YtinolellciikoaaCond13
import Derived.Test.YtinolellciikoaaFrame9
namespace Go.Proofs
open Go Go.Vc
structure RdT (w : World) (s : SV) (l : List Txt) : Prop where
  rd : RdS encT 1 w s l
  txt : ∀ x ∈ l, RdB w x.1 x.2
theorem RdT.ext {w w' : World} {s : SV} {l : List Txt} (h : RdT w s l) (e : Ext w w') : RdT w' s l := ⟨h.rd.ext e, fun x hx => (h.txt x hx).ext e⟩
theorem OwnL.rdT {w : World} {B : Nat} {s : SV} {l : List Txt} (h : OwnL w B s l) : RdT w s l := ⟨h.own.rd, fun x hx => (h.txt x hx).rd⟩
abbrev txts (l : List Txt) : List (List UInt8) := l.map (·.2)
theorem RdT.get {w : World} {s : SV} {l : List Txt} (h : RdT w s l) {i : Nat} (hi : i < l.length) {K : Addr → Prop} (hk : ∀ A, s.a = some A → K A) : onP s.a K := h.rd.get hi hk
theorem RdT.cell {w : World} {s : SV} {l : List Txt} (h : RdT w s l) {i : Nat} {x : Txt} (hx : l[i]? = some x) {A : Addr} (hA : s.a = some A) : w.cell? (A.add (i * 1)) = some (.slice x.1.a x.1.len x.1.cap) := h.rd.at_ hx hA 0 _ rfl
theorem dunnagehelp_Lists.spec {w : World} {a b : SV} {xs ys : List Txt} (ha : RdT w a xs) (hb : RdT w b ys) (hl : xs.length < 2 ^ 62) :
    CallT [.one .bool] Try.prog F.dunnagehelp_Lists [.slice a.a a.len a.cap, .slice b.a b.len b.cap] w fun r w' => r = decide (txts xs = txts ys) ∧ Ext w w' := by
  refine dunnagehelp_Lists.vc a b w _ (dunnagehelp_Same_sl_byte.vc a b _ w _ ?_)
  have hal := ha.rd.len
  have hbl := hb.rd.len
  have no : ∀ {w' : World}, Ext w w' → txts xs ≠ txts ys → false = decide (txts xs = txts ys) ∧ Ext w w' := fun e h => ⟨by rw [eq_comm, decide_eq_false_iff_not]; exact h, e⟩
  refine cnd_bne (fun hne => no (Upd.refl _ _) fun h => hne ?_) (fun he => ?_)
  · have := congrArg List.length h
    simp only [txts, List.length_map] at this
    omega
  have hxy : xs.length = ys.length := by omega
  refine ⟨fun n i w' => ∃ k : Nat, i = k ∧ k ≤ xs.length ∧ n = xs.length - k ∧ Ext w w' ∧ (txts xs).take k = (txts ys).take k, ⟨_, 0, rfl, by omega, rfl, Upd.refl _ _, rfl⟩, ?_⟩
  rintro n i j w' ⟨k, rfl, hk, rfl, hu, hq⟩
  refine cnd_dec (fun hlt => ?_) (fun hge => ?_)
  · have hkx : k < xs.length := by omega
    have hky : k < ys.length := by omega
    have e : Ext w w'.drew := hu.drew
    generalize w'.drew = w2 at *
    have hit : Int.toNat (k : Int) = k := Int.toNat_natCast k
    refine ⟨by omega, by omega, (ha.ext e).get hkx fun A hA => ⟨xs[k].1, by rw [hit]; exact (ha.ext e).cell (List.getElem?_eq_getElem hkx) hA, by omega, by omega, (hb.ext e).get hky fun B hB => ⟨ys[k].1, by rw [hit]; exact (hb.ext e).cell (List.getElem?_eq_getElem hky) hB, ?_⟩⟩⟩
    refine CallT.mono (dunnagehelp_Bytes.spec ((ha.ext e).txt _ (List.getElem_mem hkx)) ((hb.ext e).txt _ (List.getElem_mem hky))) ?_
    rintro _ _ ⟨rfl, rfl⟩
    refine cnd_not (fun hf => no e fun h => ?_) (fun ht => ?_)
    · have h2 : (txts xs)[k]? = (txts ys)[k]? := by rw [h]
      simp only [txts, List.getElem?_map, List.getElem?_eq_getElem hkx, List.getElem?_eq_getElem hky, Option.map_some, Option.some.injEq] at h2
      rw [h2] at hf
      simp at hf
    · have hb2 : xs[k].2 = ys[k].2 := by simpa using ht
      refine ⟨_, ?_, k + 1, by rw [i64_id] <;> omega, by omega, rfl, e, ?_⟩
      · omega
      · simp only [txts] at hq ⊢
        rw [List.take_add_one, List.take_add_one, hq]
        simp [List.getElem?_map, List.getElem?_eq_getElem hkx, List.getElem?_eq_getElem hky, hb2]
  · have hk2 : k = xs.length := by omega
    subst hk2
    rw [List.take_of_length_le (by simp), List.take_of_length_le (by simp; omega)] at hq
    exact ⟨by simp [hq], hu⟩
def cutL (a f : Nat) (d : List UInt8) (n : Nat) : List (List UInt8) := (List.range n).map fun i => frB a f (cntF d.length : Int) (piece d i)
def cutF (a f : Nat) (d : List UInt8) : List (List UInt8) × Int := if 8192 < d.length then ([], 4) else (cutL a f d (cntF d.length), 0)
theorem cutL_succ (a f : Nat) (d : List UInt8) (n : Nat) : cutL a f d (n + 1) = cutL a f d n ++ [frB a f (cntF d.length : Int) (piece d n)] := by simp [cutL, List.range_succ]
theorem cut_may {d : List UInt8} (hl : d.length ≤ 8192) (i : Nat) : mayF (cntF d.length : Int) (piece d i).length = true := by
  have h1 := piece_len d i
  have h2 := cntF_pos d.length
  have h3 : cntF d.length ≤ 19 := by unfold cntF; split <;> omega
  simp only [mayF, decide_eq_true_eq]
  omega
set_option maxRecDepth 100000 in
theorem frame_Cut.spec {w : World} {a f : Nat} {s : SV} {d : List UInt8} (ha : a < 2 ^ 64) (hf : f < 2 ^ 64) (hd : RdB w s d) (hc : s.len ≤ s.cap) :
    CallT [.one .slice, .one (.int .i64)] Try.prog F.frame_Cut [.int .u64 a, .int .u64 f, .slice s.a s.len s.cap] w fun r w' => ∃ l, OwnL w' w.heap.size r.1 l ∧ txts l = (cutF a f d).1 ∧ r.2 = (cutF a f d).2 ∧ Ext w w' := by
  refine frame_Cut.vc (a : Int) (f : Int) s w _ ?_
  have hdl := hd.lenB
  refine cnd_dec (fun h => ?_) (fun h => ?_)
  · rw [cutF, if_pos (by omega)]
    exact ⟨[], OwnL.nil _ _, rfl, rfl, Upd.refl _ _⟩
  have hl : d.length ≤ 8192 := by omega
  refine CallT.mono (frame_Count.spec (s.len : Int) ⟨by omega, by omega⟩ w) ?_
  rintro _ _ ⟨rfl, rfl⟩
  rw [hdl, cntF_eq, cutF, if_neg (by omega)]
  refine ⟨fun m x w' => ∃ (i : Nat) (t : SV) (l : List Txt), x = (t, (i : Int)) ∧ i ≤ cntF d.length ∧ m = cntF d.length - i ∧ OwnL w' w.heap.size t l ∧ txts l = cutL a f d i ∧ Ext w w', ⟨_, 0, _, [], rfl, by omega, rfl, OwnL.nil _ _, rfl, Upd.refl _ _⟩, ?_⟩
  rintro m _ _ w1 ⟨i, t, l, rfl, hi, rfl, ht, hT, e1⟩
  dsimp only
  have hll : l.length = i := by have := congrArg List.length hT; simpa [txts, cutL] using this
  refine cnd_dec (fun hlt => ?_) (fun hge => ?_)
  · have hil : i < cntF d.length := by omega
    obtain ⟨b1, b2⟩ := cut_bounds hl hil
    have h1 : IntKind.i64.wrap ((i : Int) + 1) = ((i + 1 : Nat) : Int) := by rw [i64_id (by omega) (by omega)]; simp
    have h2 : IntKind.i64.wrap (((i + 1 : Nat) : Int) * 440) = (((i + 1) * 440 : Nat) : Int) := by rw [i64_id (by omega) (by omega)]; simp
    have h3 : IntKind.i64.wrap ((i : Int) * 440) = ((i * 440 : Nat) : Int) := by rw [i64_id (by omega) (by omega)]; simp
    rw [h1, h2, h3]
    have h4 : min ((((i + 1) * 440 : Nat)) : Int) ((d.length : Nat) : Int) = ((min d.length ((i + 1) * 440) : Nat) : Int) := by omega
    rw [h4]
    simp only [Int.toNat_natCast]
    refine ⟨by omega, by omega, by omega, by omega, by omega, by omega, ?_⟩
    have hp := sub_piece (hd.ext e1) i (min d.length ((i + 1) * 440)) b1 (Nat.le_refl _)
    refine CallT.mono (frame_Write.spec ha hf (of := (cntF d.length : Int)) hp) ?_
    rintro ⟨o, e⟩ w2 ⟨ho, he, e2⟩
    rw [wrF, if_pos (cut_may hl i)] at ho he
    dsimp only at ho he ⊢
    subst he
    have e02 := e1.tr e2
    refine cnd_neg rfl ?_
    refine app_text (d := frB a f (cntF d.length : Int) (piece d i)) e02 (ht.ext e2) (ho.mono e1.size) (fun b hb hs => ?_) (fun x hx b hb hs => ?_) (by omega) ?_
    · have := ho.blk_ge hb
      have := (ht.lt (.inl hs)).2
      omega
    · have := ho.blk_ge hs
      have := (ht.lt (.inr ⟨x, hx, hb⟩)).2
      omega
    intro t' w3 ht' e3
    refine ⟨cntF d.length - (i + 1), by omega, i + 1, t', _, rfl, by omega, rfl, ht', ?_, e3⟩
    rw [cutL_succ, ← hT]; simp [txts]
  · have hil : i = cntF d.length := by omega
    subst hil
    exact ⟨l, ht, hT, rfl, e1⟩
set_option maxRecDepth 100000 in
theorem ref06_Cut.spec {w : World} {a f : Nat} {s : SV} {d : List UInt8} (ha : a < 2 ^ 64) (hf : f < 2 ^ 64) (hd : RdB w s d) (hc : s.len ≤ s.cap) :
    CallT [.one .slice, .one (.int .i64)] Try.prog F.dunnageref06_Cut [.int .u64 a, .int .u64 f, .slice s.a s.len s.cap] w fun r w' => ∃ l, OwnL w' w.heap.size r.1 l ∧ txts l = (cutF a f d).1 ∧ r.2 = (cutF a f d).2 ∧ Ext w w' := by
  refine dunnageref06_Cut.vc (a : Int) (f : Int) s w _ ?_
  have hdl := hd.lenB
  refine cnd_dec (fun h => ?_) (fun h => ?_)
  · rw [cutF, if_pos (by omega)]
    exact ⟨[], OwnL.nil _ _, rfl, rfl, Upd.refl _ _⟩
  have hl : d.length ≤ 8192 := by omega
  refine CallT.mono (ref06_Frames.spec ha hf hd hc hl) ?_
  rintro q w1 ⟨L, hq, hL, hF, e1⟩
  have hql := hq.own.len
  rw [cutF, if_neg (by omega)]
  refine ⟨fun m x w' => ∃ (i : Nat) (t : SV) (l : List Txt), x = (t, (i : Int)) ∧ i ≤ cntF d.length ∧ m = cntF d.length - i ∧ OwnL w' w1.heap.size t l ∧ txts l = cutL a f d i ∧ Ext w1 w', ⟨_, 0, _, [], rfl, by omega, rfl, OwnL.nil _ _, rfl, Upd.refl _ _⟩, ?_⟩
  rintro m _ _ w2 ⟨i, t, l, rfl, hi, rfl, ht, hT, e2⟩
  dsimp only
  have hll : l.length = i := by have := congrArg List.length hT; simpa [txts, cutL] using this
  have hc19 : cntF d.length ≤ 19 := by unfold cntF; split <;> omega
  refine cnd_dec (fun hlt => ?_) (fun hge => ?_)
  · have hil : i < cntF d.length := by omega
    have hit : Int.toNat (i : Int) = i := Int.toNat_natCast i
    have h1 : IntKind.i64.wrap ((i : Int) + 1) = ((i + 1 : Nat) : Int) := by rw [i64_id (by omega) (by omega)]; simp
    have hxL : L[i]? = some L[i] := List.getElem?_eq_getElem (by omega)
    have hokL := hq.ok L[i] (List.getElem_mem (by omega))
    obtain ⟨f1, f2, f3, f4⟩ := hF i (by omega)
    refine ⟨by omega, by omega, (hq.ext e2).own.rd.get (i := i) (by omega) fun A hA => ⟨frOf L[i], ?_, ?_⟩⟩
    · rw [hit]; exact (hq.ext e2).own.rd.at_ hxL hA
    refine CallT.mono (ref06_Write.spec hokL.2.1 hokL.2.2.1 (of := L[i].of) (hokL.1.ext e2)) ?_
    rintro ⟨o, e⟩ w3 ⟨ho, he, e3⟩
    rw [f1, f2, f3, f4, wrF, if_pos (cut_may hl i)] at ho he
    dsimp only at ho he ⊢
    have e13 := e2.tr e3
    refine app_text (d := frB a f (cntF d.length : Int) (piece d i)) e13 (ht.ext e3) (ho.mono e2.size) (fun b hb hs => ?_) (fun x hx b hb hs => ?_) (by omega) ?_
    · have := ho.blk_ge hb
      have := (ht.lt (.inl hs)).2
      omega
    · have := ho.blk_ge hs
      have := (ht.lt (.inr ⟨x, hx, hb⟩)).2
      omega
    intro t' w3 ht' e3
    rw [h1]
    refine ⟨cntF d.length - (i + 1), by omega, i + 1, t', _, rfl, by omega, rfl, ht', ?_, e3⟩
    rw [cutL_succ, ← hT]; simp [txts]
  · have hil : i = cntF d.length := by omega
    subst hil
    exact ⟨l, ht.mono e1.size, hT, rfl, e1.tr e2⟩
end Go.Proofs
