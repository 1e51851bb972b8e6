/- dunnagelaw04.DiskSubset: a fall keeps of what waits just what it is told to keep. Conditions: the scripts and the flags are readable. -/
import Derived.Test.YtinolellciikoaaCond0
import Derived.Test.YtinolellciikoaaDisk6
namespace Go.Proofs
open Go Go.Vc
def at8 (o : OpV) : Nat := (IntKind.u64.wrap o.at_ % 8).toNat
theorem at8_lt (o : OpV) : at8 o < 8 := by rw [at8]; omega
theorem at8_eq (o : OpV) : IntKind.i64.wrap ((IntKind.u64.wrap o.at_).tmod 8) = (at8 o : Nat) := by
  obtain ⟨n, h1, h2, _⟩ := mod8 o.at_
  rw [h1, h2]; rfl
def wrOp (o : OpV) : Wr := (at8 o, secOf (fullB (o.v.toNat : Int) false))
def wrOps (l : List OpV) (i : Nat) : List Wr := (l.take i).map wrOp
theorem wrOps_len {l : List OpV} {i : Nat} (h : i ≤ l.length) : (wrOps l i).length = i := by rw [wrOps, List.length_map, List.length_take]; omega
theorem wrOps_succ {l : List OpV} {i : Nat} {o : OpV} (h : l[i]? = some o) : wrOps l (i + 1) = wrOps l i ++ [wrOp o] := by
  rw [wrOps, wrOps, List.take_add_one, h]; simp
theorem wrOps_get {l : List OpV} {i : Nat} {o : OpV} (h : l[i]? = some o) : (wrOps l (i + 1))[i]? = some (wrOp o) := by
  rw [wrOps_succ h, List.getElem?_append_right (by rw [wrOps_len (Nat.le_of_lt (List.getElem?_eq_some_iff.1 h).1)]; exact Nat.le_refl _), wrOps_len (Nat.le_of_lt (List.getElem?_eq_some_iff.1 h).1)]
  simp
def subV (K : List Sec) (l : List OpV) (keep : List Bool) (i : Nat) : List (List UInt8) := (applyW K (keepW (wrOps l i) keep)).map (·.1)
theorem keepW_snoc {ws : List Wr} {keep : List Bool} {p : Wr} : keepW (ws ++ [p]) keep = keepW ws keep ++ (if keep.getD ws.length false = true then [p] else []) := by
  have h := keepW_take (ws := ws ++ [p]) (keep := keep) (i := ws.length) (p := p) (by simp)
  rw [List.take_of_length_le (by simp), List.take_left' rfl] at h
  exact h
theorem subV_succ {K : List Sec} {l : List OpV} {keep : List Bool} {i : Nat} {o : OpV} (h : l[i]? = some o) :
    subV K l keep (i + 1) = if keep.getD i false = true then (subV K l keep i).set (at8 o) (fullB (o.v.toNat : Int) false) else subV K l keep i := by
  have hl := wrOps_len (Nat.le_of_lt (List.getElem?_eq_some_iff.1 h).1)
  rw [subV, subV, wrOps_succ h, keepW_snoc, hl]
  split
  · have hv : (wrOp o).2.1 = fullB (o.v.toNat : Int) false := by unfold wrOp; rw [secOf_val (fullB_len _)]
    have ha : (wrOp o).1 = at8 o := by unfold wrOp; rfl
    rw [applyW_snoc, List.map_set, hv, ha]
  · rw [List.append_nil]
theorem subV_len {K : List Sec} {l : List OpV} {keep : List Bool} {i : Nat} : (subV K l keep i).length = K.length := by rw [subV, List.length_map, applyW_len]
set_option maxRecDepth 100000 in
theorem dunnagelaw04_DiskSubset.spec {w : World} {s0 s1 s2 : SV} {l0 l1 : List OpV} {l2 : List Bool} (hs0 : RdOps w s0 l0) (hs1 : RdOps w s1 l1) (hs2 : RdBo w s2 l2) :
    CallT [.one .bool] Try.prog F.dunnagelaw04_DiskSubset [.slice s0.a s0.len s0.cap, .slice s1.a s1.len s1.cap, .slice s2.a s2.len s2.cap] w fun r w' => r = true ∧ Ext w w' := by
  refine dunnagelaw04_DiskSubset.vc s0 s1 s2 w _ ?_
  refine CallT.mono (ran.spec hs0) ?_
  rintro _ w1 ⟨e1, d, k, s, rfl, h1, n1⟩
  obtain ⟨q1, q2, q3⟩ := runD_le (l0.take 100) (newD 8)
  have hl0 : (l0.take 100).length ≤ 100 := by rw [List.length_take]; omega
  have q1' : (runD (newD 8) (l0.take 100)).kept.length = 8 := by rw [q1]; rfl
  have q2' : (runD (newD 8) (l0.take 100)).waits.length ≤ 100 := by have : (newD 8).waits.length = 0 := rfl; omega
  generalize runD (newD 8) (l0.take 100) = D at h1 q1' q2'
  refine ⟨fun _ w' => Ext w1 w', CallT.mono (dunnagelaw04_awake.spec w1) ?_, ?_⟩
  · rintro _ w2 ⟨rfl, e2⟩
    exact cnd_neg rfl (cnd_neg rfl e2)
  rintro _ _ w2 e2
  have h2 := h1.ext e2
  have x2 : Ext w w2 := e1.trans e2 fun _ _ h => h
  refine CallT.mono (disk_Start.spec h2) ?_
  rintro _ w3 ⟨_, s3, h3⟩
  refine CallT.mono (disk_Arm.spec h3.at_ (n := 0) (by omega)) ?_
  rintro _ w4 ⟨_, h4⟩
  have b1 := (startD_le D).ws
  have b2 := (armD_le (startD D) 0).ws
  refine CallT.mono (disk_Flush.spec h4.at_ (by omega)) ?_
  rintro _ w5 ⟨rfl, s5, h5⟩
  obtain ⟨K, fl, hK, hfl, hset⟩ := settle D
  rw [hset] at h5 ⊢
  rw [q1'] at hK
  have g5 := (h3.tr h4).tr h5
  have x5 : Ext w w5 := g5.ext_of x2 n1
  have n5 : ∀ b, fp d k s5 b → w.heap.size ≤ b := fun b hb => by
    rcases g5.fp' hb with h | h
    · exact n1 b h
    · exact Nat.le_trans x2.size h
  refine cnd_neg rfl ?_
  have a5 := g5.at_
  generalize hc : w5.alloc _ = w6
  obtain ⟨b6, e6, z6⟩ := bk_new (T := T.a8_sl_uint8) (vs := nilV8) hc
  have nb : ¬ fp d k s5 w5.heap.size := fun h => by have := a5.lt h; omega
  have wb : w.heap.size ≤ w5.heap.size := x5.size
  generalize hB : w5.heap.size = b at b6 nb wb ⊢
  have hbw : b < w6.heap.size := by omega
  refine ⟨fun m x w' => ∃ (i : Nat) (ts : List SV), x = i ∧ i ≤ 8 ∧ m = 8 - i ∧ Ext w w' ∧ DkAt w' d k s5 { kept := K, waits := [], down := false, armed := 0, flips := fl } ∧ Wants w' b d k s5 ts (valsK K i), ⟨_, 0, _, rfl, by omega, rfl, x5.trans e6 fun _ _ h => h, a5.ext e6, Wants.new b6 nb⟩, ?_⟩
  rintro m _ _ w7 ⟨i, ts, rfl, hi, rfl, x7, a7, v7⟩
  refine cnd_dec (fun hlt => ?_) (fun hge => ?_)
  · have hw : IntKind.i64.wrap ((i : Int) + 1) = ((i + 1 : Nat) : Int) := by rw [i64_id] <;> omega
    have hi8 : i < 8 := by omega
    refine CallT.mono (disk_Read.spec a7 (by simp) i) ?_
    rintro ⟨o, e⟩ w8 ⟨g8, _, e8⟩
    have hx : K[i]? = some K[i] := List.getElem?_eq_getElem (by omega)
    have hr : (readD { kept := K, waits := [], down := false, armed := 0, flips := fl } (i : Int)).1 = K[i].1 := by
      rw [readD, if_neg (by simp), if_neg (by simp only; omega)]
      simp only [showD, lastW, List.foldl_nil, Int.toNat_natCast, List.getD_eq_getElem?_getD, hx, Option.getD_some]
    rw [hr] at g8
    have v8 := v7.ext e8
    have zb := v7.bk.lt
    obtain ⟨c1, c2, c3, u⟩ := v8.put (i := i) (by rw [valsK_len hK hi]; omega) (t := o) (l := K[i].1) (Own.mono g8 (Nat.zero_le _)) (fun h => by have := Own.blk_ge g8 h; omega) (fun c hc hf => by have := Own.blk_ge g8 hc; have := a7.lt hf; omega)
    refine ⟨by omega, by omega, ?_⟩
    rw [Int.toNat_natCast, Nat.mul_one]
    refine ⟨c1, c2, 8 - (i + 1), by omega, i + 1, ts.set i o, hw, by omega, rfl, (x7.trans e8 fun _ _ h => h).trans u fun x hx he => ?_, (a7.ext e8).beside v8.nb u, ?_⟩
    · omega
    · rw [← valsK_set hK hx]; exact c3
  · have hi8 : i = 8 := by omega
    subst hi8
    rw [valsK_all hK] at v7
    have hl1 := hs1.rd.len
    have hl2 := hs2.len
    refine ⟨fun x w' => ∃ (i : Nat) (s' : SV) (ts : List SV), x = i ∧ i ≤ l1.length ∧ i ≤ 40 ∧ Ext w w' ∧ (∀ c, fp d k s' c → w.heap.size ≤ c) ∧ DkAt w' d k s' { kept := K, waits := wrOps l1 i, down := false, armed := 0, flips := fl } ∧ Wants w' b d k s' ts (subV K l1 l2 i), ?_, ?_⟩
    · refine ⟨fun m x w' => ∃ (i : Nat) (s' : SV) (ts : List SV), x = ((i : Int), (i : Int)) ∧ m = 40 - i ∧ i ≤ l1.length ∧ i ≤ 40 ∧ Ext w w' ∧ (∀ c, fp d k s' c → w.heap.size ≤ c) ∧ DkAt w' d k s' { kept := K, waits := wrOps l1 i, down := false, armed := 0, flips := fl } ∧ Wants w' b d k s' ts (subV K l1 l2 i),
        ⟨_, 0, s5, ts, rfl, rfl, by omega, by omega, x7, n5, a7, v7⟩, ?_⟩
      rintro m _ _ w8 ⟨i, s8, ts8, rfl, rfl, hi, hi40, x8, n8, a8, v8⟩
      dsimp only
      refine ⟨fun _ w' => w8 = w' ∧ i < l1.length ∧ i < 40, cnd_dec (fun hlt => cnd_dec (fun hl => ⟨rfl, by omega, by omega⟩) fun _ => ⟨i, s8, ts8, rfl, hi, hi40, x8, n8, a8, v8⟩) (fun _ => ⟨i, s8, ts8, rfl, hi, hi40, x8, n8, a8, v8⟩), ?_⟩
      rintro _ _ _ ⟨rfl, hil, hi1⟩
      have hx : l1[i]? = some l1[i] := List.getElem?_eq_getElem hil
      generalize l1[i] = o at hx
      have hw : IntKind.i64.wrap ((i : Int) + 1) = ((i + 1 : Nat) : Int) := by rw [i64_id] <;> omega
      have hr1 := hs1.rd.ext x8
      refine ⟨by omega, by omega, hr1.get (i := i) hil fun A hA => ⟨o.at_, ?_, by omega, by omega, hr1.get (i := i) hil fun A' hA' => ⟨(o.v.toNat : Int), ?_, ?_⟩⟩⟩
      · rw [Int.toNat_natCast]; exact (hr1.at_ hx hA) 1 _ rfl
      · rw [Int.toNat_natCast]; exact (hr1.at_ hx hA') 3 _ rfl
      refine CallT.mono (full04.spec (o.v.toNat : Int) false w8) ?_
      rintro t w9 ⟨ht, e9⟩
      have hlen := wrOps_len (l := l1) hi
      rw [at8_eq]
      have zb := v8.bk.lt
      refine CallT.mono (disk_Write.spec (a8.ext e9) (by simp only; omega) (at_ := ((at8 o : Nat) : Int)) ht.rd fun c _ hc hs => ?_) ?_
      · have := ht.blk_ge hc; have := a8.wait.own.blk_lt hs; omega
      have hat := at8_lt o
      have hwr : writeD { kept := K, waits := wrOps l1 i, down := false, armed := 0, flips := fl } ((at8 o : Nat) : Int) (fullB (o.v.toNat : Int) false) = ({ kept := K, waits := wrOps l1 (i + 1), down := false, armed := 0, flips := fl }, 0) := by
        rw [writeD_in rfl (by omega) (by simp only; omega) (fullB_len _), cntD_zero rfl, wrOps_succ hx]
        rfl
      rw [hwr]
      rintro _ w10 ⟨rfl, s10, h10⟩
      refine cnd_neg rfl ?_
      have x9 : Ext w w9 := x8.trans e9 fun _ _ h => h
      have x10 : Ext w w10 := h10.ext_of x9 n8
      have n10 : ∀ c, fp d k s10 c → w.heap.size ≤ c := fun c hc => by
        rcases h10.fp' hc with h | h
        · exact n8 c h
        · exact Nat.le_trans x9.size h
      have v10 := (v8.ext e9).dk h10
      have t10 : OwnB w10 w8.heap.size t (fullB (o.v.toNat : Int) false) := Own.upd ht h10.u fun c hc hf => by have := ht.blk_ge hc; have := a8.lt hf; omega
      refine ⟨fun x w' => w10 = w' ∧ x = l2.getD i false, ?_, ?_⟩
      · refine cnd_dec (fun hlt2 => ?_) (fun hge2 => ⟨rfl, ?_⟩)
        · have hik : i < l2.length := by omega
          have hy : l2[i]? = some l2[i] := List.getElem?_eq_getElem hik
          have hr2 := hs2.ext x10
          refine ⟨by omega, by omega, hr2.get hik fun A' hA' => ⟨l2[i], ?_, rfl, ?_⟩⟩
          · rw [Int.toNat_natCast]; exact (hr2.at_ hy hA') 0 _ rfl
          · rw [List.getD_eq_getElem?_getD, hy]; rfl
        · rw [List.getD_eq_getElem?_getD, List.getElem?_eq_none (by omega)]; rfl
      rintro _ _ _ ⟨rfl, rfl⟩
      have hsv := subV_succ (K := K) (keep := l2) hx
      refine cnd_intro (fun htr => ?_) (fun hfa => ?_)
      · rw [if_pos htr] at hsv
        obtain ⟨c1, c2, c3, u⟩ := v10.put (i := at8 o) (by rw [subV_len]; omega) (t := t) (l := fullB (o.v.toNat : Int) false) (Own.mono t10 (Nat.zero_le _)) (fun h => by have := ht.blk_ge h; omega) (fun c hc hf => by
          have h1 := ht.blk_ge hc
          rcases h10.fp' hf with h2 | h2
          · have := a8.lt h2; omega
          · have := ht.blk_lt hc; omega)
        refine ⟨by omega, by omega, ?_⟩
        rw [Int.toNat_natCast, Nat.mul_one]
        refine ⟨c1, c2, 40 - (i + 1), by omega, i + 1, s10, ts8.set (at8 o) t, by rw [hw], rfl, by omega, by omega, x10.trans u fun x hx he => ?_, n10, h10.at_.beside v10.nb u, ?_⟩
        · omega
        · rw [hsv]; exact c3
      · rw [if_neg (by rw [hfa]; simp)] at hsv
        exact ⟨40 - (i + 1), by omega, i + 1, s10, _, by rw [hw], rfl, by omega, by omega, x10, n10, h10.at_, by rw [hsv]; exact v10⟩
    rintro _ _ w8 ⟨i, s8, ts8, rfl, hi, hi40, x8, n8, a8, v8⟩
    have hlen := wrOps_len (l := l1) hi
    have hcr : startD (crashD { kept := K, waits := wrOps l1 i, down := false, armed := 0, flips := fl } l2) = { kept := applyW K (keepW (wrOps l1 i) l2), waits := [], down := false, armed := 0, flips := fl } := rfl
    refine ⟨fun _ w' => Ext w w' ∧ ∃ s', DkAt w' d k s' { kept := applyW K (keepW (wrOps l1 i) l2), waits := [], down := false, armed := 0, flips := fl } ∧ Wants w' b d k s' ts8 (subV K l1 l2 i), ?_, ?_⟩
    · refine CallT.mono (disk_Waiting.spec a8) ?_
      rintro _ _ ⟨rfl, rfl⟩
      refine cnd_neg (by simp [hlen]) ?_
      refine CallT.mono (disk_Crash.spec a8 (by simp only; omega) (t := s2) (keep := l2) fun w' u => hs2.ext (x8.trans u fun x hx hb => absurd (n8 x hb) (by omega))) ?_
      rintro _ w9 ⟨rfl, s9, h9⟩
      refine cnd_neg rfl (CallT.mono (disk_Down.spec h9.at_) ?_)
      rintro _ _ ⟨rfl, rfl⟩
      refine cnd_neg rfl (CallT.mono (disk_Waiting.spec h9.at_) ?_)
      rintro _ _ ⟨rfl, rfl⟩
      refine cnd_neg rfl (CallT.mono (disk_Start.spec h9.at_) ?_)
      rintro _ w10 ⟨rfl, s10, h10⟩
      rw [hcr] at h10
      have g := h9.tr h10
      exact cnd_neg rfl ⟨g.ext_of x8 n8, s10, g.at_, v8.dk g⟩
    rintro _ _ w9 ⟨x9, s9, a9, v9⟩
    refine ⟨fun m x w' => ∃ i : Nat, x = i ∧ i ≤ 8 ∧ m = 8 - i ∧ Ext w9 w', ⟨_, 0, rfl, by omega, rfl, Upd.refl _ _⟩, ?_⟩
    rintro m _ _ w10 ⟨j, rfl, hj, rfl, e10⟩
    refine cnd_dec (fun hlt => ?_) (fun hge => ⟨rfl, x9.trans e10 fun _ _ h => h⟩)
    have hw : IntKind.i64.wrap ((j : Int) + 1) = ((j + 1 : Nat) : Int) := by rw [i64_id] <;> omega
    refine CallT.mono (disk_Read.spec (a9.ext e10) (by simp) j) ?_
    rintro ⟨o, e⟩ w11 ⟨g11, he, e11⟩
    have hj8 : j < (applyW K (keepW (wrOps l1 i) l2)).length := by rw [applyW_len]; omega
    have hx := List.getElem?_eq_getElem hj8
    generalize (applyW K (keepW (wrOps l1 i) l2))[j] = y at hx
    have hr : readD { kept := applyW K (keepW (wrOps l1 i) l2), waits := [], down := false, armed := 0, flips := fl } (j : Int) = (y.1, 0) := by
      rw [readD, if_neg (by simp), if_neg (by simp only; omega)]
      simp only [showD, lastW, List.foldl_nil, Int.toNat_natCast, List.getD_eq_getElem?_getD, hx, Option.getD_some]
    rw [hr] at g11 he
    dsimp only at g11 he ⊢
    subst he
    obtain ⟨t, ht1, ht2⟩ := ((v9.ext e10).ext e11).get (i := j) (l := y.1) (by rw [subV, List.getElem?_map, hx]; rfl)
    refine cnd_neg rfl ⟨by omega, by omega, t, ?_, CallT.mono (dunnagehelp_Bytes.spec g11.rd ht2) ?_⟩
    · rw [Int.toNat_natCast, Nat.mul_one]; exact ht1
    rintro _ _ ⟨rfl, rfl⟩
    exact cnd_neg (by simp) ⟨8 - (j + 1), by omega, j + 1, hw, by omega, rfl, e10.trans e11 fun _ _ h => h⟩
end Go.Proofs
