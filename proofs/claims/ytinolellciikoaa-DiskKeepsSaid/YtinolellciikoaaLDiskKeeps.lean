/- dunnagelaw04.DiskKeeps: behind any fall a sector is what was there at the flush or one of those that were written since. Conditions: the scripts and the flags are readable. -/
import Derived.Test.YtinolellciikoaaCond0
import Derived.Test.YtinolellciikoaaDisk6
namespace Go.Proofs
open Go Go.Vc
theorem Wants.keep {M : Nat → Prop} {w w' : World} {b d : Nat} {k s : SV} {ts : List SV} {V : List (List UInt8)} (h : Wants w b d k s ts V) (u : Upd M w w') (hb : ¬ M b) (ht : ∀ (j : Nat) t, ts[j]? = some t → ∀ c, t.blk c → ¬ M c) : Wants w' b d k s ts V :=
  ⟨h.bk.upd u hb, h.tl, fun j x l hx hl => ⟨Own.upd (h.own j x l hx hl).1 u (ht j x hx), (h.own j x l hx hl).2⟩, h.nb⟩
/-- A device, what it showed, what was written to it since. -/
structure KS (w0 w : World) (b1 b2 d : Nat) (k s : SV) (D : DK) (ts : List SV) (V : List (List UInt8)) (ms : List SV) (M : List (List UInt8)) : Prop where
  e : Ext w0 w
  a : DkAt w d k s D
  na : ∀ c, fp d k s c → w0.heap.size ≤ c
  o : Wants w b1 d k s ts V
  m : Wants w b2 d k s ms M
  g1 : w0.heap.size ≤ b1
  g2 : w0.heap.size ≤ b2
  g12 : b1 ≠ b2
  x1 : ∀ (j : Nat) t, ts[j]? = some t → ¬ t.blk b2
  x2 : ∀ (j : Nat) t, ms[j]? = some t → ¬ t.blk b1 ∧ (∀ c, t.blk c → w0.heap.size ≤ c) ∧ (∀ (i : Nat) u, ts[i]? = some u → ∀ c, t.blk c → ¬ u.blk c) ∧ ∀ (i : Nat) u, j ≠ i → ms[i]? = some u → ∀ c, t.blk c → ¬ u.blk c
section
variable {w0 w w' : World} {b1 b2 d : Nat} {k s : SV} {D : DK} {ts ms : List SV} {V M : List (List UInt8)}
theorem KS.ext (h : KS w0 w b1 b2 d k s D ts V ms M) (e : Ext w w') : KS w0 w' b1 b2 d k s D ts V ms M :=
  ⟨h.e.trans e fun _ _ h => h, h.a.ext e, h.na, h.o.ext e, h.m.ext e, h.g1, h.g2, h.g12, h.x1, h.x2⟩
theorem KS.dk {s' : SV} {D' : DK} (h : KS w0 w b1 b2 d k s D ts V ms M) (t : DkTo w w' d k s s' D') : KS w0 w' b1 b2 d k s' D' ts V ms M := by
  refine ⟨t.ext_of h.e h.na, t.at_, fun c hc => ?_, h.o.dk t, h.m.dk t, h.g1, h.g2, h.g12, h.x1, h.x2⟩
  have z := h.e.size
  rcases t.fp' hc with h1 | h1
  · exact h.na c h1
  · omega
theorem KS.put {i : Nat} {t t' : SV} {l l' : List UInt8} (h : KS w0 w b1 b2 d k s D ts V ms M) (ht : ms[i]? = some t) (hl : M[i]? = some l) (u : Upd t.blk w w') (ho : OwnB w' w0.heap.size t' l') (hn : ∀ c, t'.blk c → t.blk c ∨ w.heap.size ≤ c) :
    (w'.cell? (Addr.add ⟨b2, 0, none⟩ i)).isSome = true ∧ w'.frozen? (Addr.add ⟨b2, 0, none⟩ i) = false ∧ KS w0 (w'.setCell (Addr.add ⟨b2, 0, none⟩ i) (slV t')) b1 b2 d k s D ts V (ms.set i t') (M.set i l') := by
  obtain ⟨y1, y2, y3, y4⟩ := h.x2 i t ht
  obtain ⟨_, z2, z3⟩ := h.m.own i t l ht hl
  have him := (List.getElem?_eq_some_iff.1 ht).1
  have hiM := (List.getElem?_eq_some_iff.1 hl).1
  have lb1 := h.o.bk.lt
  have lb2 := h.m.bk.lt
  have nt2 : ¬ t'.blk b2 := fun hc => by
    rcases hn _ hc with h1 | h1
    · exact z2 h1
    · omega
  have nt1 : ¬ t'.blk b1 := fun hc => by
    rcases hn _ hc with h1 | h1
    · exact y1 h1
    · omega
  obtain ⟨c1, c2, c3⟩ := (h.m.bk.upd u z2).store i (by rw [List.length_map]; exact him) (slV t')
  have u2 : Upd (fun x => x = b2) w' (w'.setCell (Addr.add ⟨b2, 0, none⟩ i) (slV t')) := (Upd.refl _ w').set (p := Addr.add ⟨b2, 0, none⟩ i) (fun _ => by simp) _
  have eu : Ext w0 w' := h.e.trans u fun x hx hb => absurd (y2 x hb) (by omega)
  have tlen := h.m.tl
  refine ⟨c1, c2, eu.trans u2 fun x hx he => absurd h.g2 (by omega), (h.a.upd u fun c hc hb => z3 c hb hc).beside h.m.nb u2, h.na,
    (h.o.keep u y1 fun j x hx c hc hb => y3 j x hx c hb hc).keep u2 h.g12 fun j x hx c hc he => h.x1 j x hx (he ▸ hc), ⟨by rw [List.map_set]; exact c3, by rw [List.length_set, List.length_set]; exact tlen, fun j x y hx hy => ?_, h.m.nb⟩, h.g1, h.g2, h.g12, h.x1, fun j x hx => ?_⟩
  · by_cases hj : i = j
    · subst hj
      rw [List.getElem?_set_self him] at hx
      rw [List.getElem?_set_self hiM] at hy
      obtain rfl := Option.some.inj hx
      obtain rfl := Option.some.inj hy
      refine ⟨Own.mono (Own.upd ho u2 fun c hc he => nt2 (he ▸ hc)) (Nat.zero_le _), nt2, fun c hc hf => ?_⟩
      rcases hn c hc with h1 | h1
      · exact z3 c h1 hf
      · have := h.a.lt hf; omega
    · rw [List.getElem?_set_ne hj] at hx hy
      obtain ⟨p1, p2, p3⟩ := h.m.own j x y hx hy
      exact ⟨Own.upd (Own.upd p1 u fun c hc hb => y4 j x hj hx c hb hc) u2 fun c hc he => p2 (he ▸ hc), p2, p3⟩
  · have old : ∀ {c : Nat} {j : Nat} {x : SV}, ms[j]? = some x → x.blk c → c < w.heap.size := fun hx hc => by
      obtain ⟨l, hl⟩ := h.m.get' hx
      exact Own.blk_lt (h.m.own _ _ _ hx hl).1 hc
    have old2 : ∀ {c : Nat} {j : Nat} {x : SV}, ts[j]? = some x → x.blk c → c < w.heap.size := fun hx hc => by
      obtain ⟨l, hl⟩ := h.o.get' hx
      exact Own.blk_lt (h.o.own _ _ _ hx hl).1 hc
    by_cases hj : i = j
    · subst hj
      rw [List.getElem?_set_self him] at hx
      obtain rfl := Option.some.inj hx
      refine ⟨nt1, fun c hc => ho.blk_ge hc, fun q v hv c hc hb => ?_, fun q v hq hv c hc hb => ?_⟩
      · rcases hn c hc with h1 | h1
        · exact y3 q v hv c h1 hb
        · have := old2 hv hb; omega
      · rw [List.getElem?_set_ne hq] at hv
        rcases hn c hc with h1 | h1
        · exact y4 q v hq hv c h1 hb
        · have := old hv hb; omega
    · rw [List.getElem?_set_ne hj] at hx
      obtain ⟨p1, p2, p3, p4⟩ := h.x2 j x hx
      refine ⟨p1, p2, p3, fun q v hq hv c hc hb => ?_⟩
      by_cases hqi : i = q
      · subst hqi
        rw [List.getElem?_set_self him] at hv
        obtain rfl := Option.some.inj hv
        rcases hn c hb with h1 | h1
        · exact p4 i t hq ht c hc h1
        · have := old hx hc; omega
      · rw [List.getElem?_set_ne hqi] at hv
        exact p4 q v hq hv c hc hb
end
/-- Each write is one of those that were noted. -/
def Noted (W : List Wr) (M : List (List UInt8)) : Prop := ∀ p ∈ W, ∃ l, M[p.1]? = some l ∧ ∃ v ∈ l, p.2.1 = fullB (v.toNat : Int) false
theorem Noted.add {W : List Wr} {M : List (List UInt8)} {i : Nat} {l : List UInt8} {v : UInt8} {x : Sec} (h : Noted W M) (hl : M[i]? = some l) (hx : x.1 = fullB (v.toNat : Int) false) : Noted (W ++ [(i, x)]) (M.set i (l ++ [v])) := by
  intro p hp
  have hi := (List.getElem?_eq_some_iff.1 hl).1
  rcases List.mem_append.1 hp with hp | hp
  · obtain ⟨l', h1, v', h2, h3⟩ := h p hp
    by_cases hj : i = p.1
    · subst hj
      obtain rfl := Option.some.inj (hl.symm.trans h1)
      exact ⟨l ++ [v], List.getElem?_set_self hi, v', by simp [h2], h3⟩
    · exact ⟨l', by rw [List.getElem?_set_ne hj]; exact h1, v', h2, h3⟩
  · obtain rfl := List.mem_singleton.1 hp
    exact ⟨l ++ [v], List.getElem?_set_self hi, v, by simp, hx⟩
theorem applyW_at : ∀ (ws : List Wr) (K : List Sec) (i : Nat) (y : Sec), (applyW K ws)[i]? = some y → K[i]? = some y ∨ ∃ p ∈ ws, p.1 = i ∧ p.2 = y
  | [], K, i, y, h => .inl h
  | p :: r, K, i, y, h => by
    rcases applyW_at r (K.set p.1 p.2) i y h with h1 | ⟨q, hq, h1⟩
    · by_cases hp : p.1 = i
      · have hi : p.1 < K.length := by
          have := (List.getElem?_eq_some_iff.1 h1).1
          rw [List.length_set] at this; omega
        rw [hp, List.getElem?_set_self (by omega)] at h1
        exact .inr ⟨p, by simp, hp, Option.some.inj h1⟩
      · rw [List.getElem?_set_ne hp] at h1
        exact .inl h1
    · exact .inr ⟨q, by simp [hq], h1⟩
set_option maxRecDepth 100000 in
theorem dunnagelaw04_DiskKeeps.spec {w : World} {s0 s1 s2 : SV} {l0 l1 : List OpV} {l2 : List Bool} (hs0 : RdOps w s0 l0) (hs1 : RdOps w s1 l1) (hs2 : RdBo w s2 l2) :
    CallT [.one .bool] Try.prog F.dunnagelaw04_DiskKeeps [.slice s0.a s0.len s0.cap, .slice s1.a s1.len s1.cap, .slice s2.a s2.len s2.cap] w fun r w' => r = true ∧ Ext w w' := by
  refine dunnagelaw04_DiskKeeps.vc s0 s1 s2 w _ ?_
  refine CallT.mono (ran.spec hs0) ?_
  rintro _ w1 ⟨e1, d, k, s, rfl, h1, n1⟩
  obtain ⟨q1, q2, q3⟩ := runD_le (l0.take 100) (newD 8)
  have hl0 : (l0.take 100).length ≤ 100 := by rw [List.length_take]; omega
  have q1' : (runD (newD 8) (l0.take 100)).kept.length = 8 := by rw [q1]; rfl
  have q2' : (runD (newD 8) (l0.take 100)).waits.length ≤ 100 := by have : (newD 8).waits.length = 0 := rfl; omega
  generalize runD (newD 8) (l0.take 100) = D at h1 q1' q2'
  refine ⟨fun _ w' => Ext w1 w', CallT.mono (dunnagelaw04_awake.spec w1) ?_, ?_⟩
  · rintro _ w2 ⟨rfl, e2⟩
    exact cnd_neg rfl (cnd_neg rfl e2)
  rintro _ _ w2 e2
  have h2 := h1.ext e2
  have x2 : Ext w w2 := e1.trans e2 fun _ _ h => h
  refine CallT.mono (disk_Start.spec h2) ?_
  rintro _ w3 ⟨_, s3, h3⟩
  refine CallT.mono (disk_Arm.spec h3.at_ (n := 0) (by omega)) ?_
  rintro _ w4 ⟨_, h4⟩
  have b1 := (startD_le D).ws
  have b2 := (armD_le (startD D) 0).ws
  refine CallT.mono (disk_Flush.spec h4.at_ (by omega)) ?_
  rintro _ w5 ⟨rfl, s5, h5⟩
  obtain ⟨K, fl, hK, hfl, hset⟩ := settle D
  rw [hset] at h5 ⊢
  rw [q1'] at hK
  have g5 := (h3.tr h4).tr h5
  have x5 : Ext w w5 := g5.ext_of x2 n1
  have n5 : ∀ b, fp d k s5 b → w.heap.size ≤ b := fun b hb => by
    rcases g5.fp' hb with h | h
    · exact n1 b h
    · exact Nat.le_trans x2.size h
  refine cnd_neg rfl ?_
  have a5 := g5.at_
  dsimp only at a5
  generalize hc : w5.alloc _ = w6
  obtain ⟨k6, e6, z6⟩ := bk_new (T := T.a8_sl_uint8) (vs := nilV8) hc
  dsimp only
  generalize hc2 : w6.alloc _ = w7
  obtain ⟨k7, e7, z7⟩ := bk_new (T := T.a8_sl_uint8) (vs := nilV8) hc2
  have nb1 : ¬ fp d k s5 w5.heap.size := fun h => by have := a5.lt h; omega
  have nb2 : ¬ fp d k s5 w6.heap.size := fun h => by have := a5.lt h; omega
  have wb1 : w.heap.size ≤ w5.heap.size := x5.size
  have k71 := k6.ext e7
  have hb12 : w5.heap.size ≠ w6.heap.size := by omega
  generalize hB1 : w5.heap.size = B1 at k71 nb1 wb1 hb12 z6 ⊢
  generalize hB2 : w6.heap.size = B2 at k7 nb2 hb12 z6 z7 ⊢
  have x7 : Ext w w7 := (x5.trans e6 fun _ _ h => h).trans e7 fun _ _ h => h
  have nilsb : ∀ (j : Nat) t, (List.replicate 8 (⟨none, 0, 0⟩ : SV))[j]? = some t → ∀ c, ¬ t.blk c := fun j t ht c hc => by
    obtain rfl : t = ⟨none, 0, 0⟩ := List.eq_of_mem_replicate (List.mem_of_getElem? ht)
    obtain ⟨A, hA, _⟩ := hc
    simp at hA
  refine ⟨fun m x w' => ∃ (i : Nat) (ts : List SV), x = i ∧ i ≤ 8 ∧ m = 8 - i ∧ KS w w' B1 B2 d k s5 { kept := K, waits := [], down := false, armed := 0, flips := fl } ts (valsK K i) (List.replicate 8 ⟨none, 0, 0⟩) (List.replicate 8 []), ⟨_, 0, _, rfl, by omega, rfl,
    x7, (a5.ext e6).ext e7, n5, Wants.new k71 nb1, Wants.new k7 nb2, wb1, by omega, hb12, fun j t ht hc => nilsb j t ht _ hc, fun j t ht => ⟨fun hc => nilsb j t ht _ hc, fun c hc => absurd hc (nilsb j t ht c), fun _ _ _ c hc => absurd hc (nilsb j t ht c), fun _ _ _ _ c hc => absurd hc (nilsb j t ht c)⟩⟩, ?_⟩
  rintro m _ _ w8 ⟨i, ts, rfl, hi, rfl, t8⟩
  refine cnd_dec (fun hlt => ?_) (fun hge => ?_)
  · have hw : IntKind.i64.wrap ((i : Int) + 1) = ((i + 1 : Nat) : Int) := by rw [i64_id] <;> omega
    have hi8 : i < 8 := by omega
    refine CallT.mono (disk_Read.spec t8.a (by simp) i) ?_
    rintro ⟨o, e⟩ w9 ⟨g8, he, e8⟩
    have hx : K[i]? = some K[i] := List.getElem?_eq_getElem (by omega)
    have hr : readD { kept := K, waits := [], down := false, armed := 0, flips := fl } (i : Int) = (K[i].1, 0) := by
      rw [readD, if_neg (by simp), if_neg (by simp only; omega)]
      simp only [showD, lastW, List.foldl_nil, Int.toNat_natCast, List.getD_eq_getElem?_getD, hx, Option.getD_some]
    rw [hr] at g8 he
    dsimp only at g8 he ⊢
    subst he
    have t9 := t8.ext e8
    have zb1 := t8.o.bk.lt
    have zb2 := t8.m.bk.lt
    obtain ⟨c1, c2, c3, u⟩ := t9.o.put (i := i) (by rw [valsK_len hK hi]; omega) (t := o) (l := K[i].1) (Own.mono g8 (Nat.zero_le _)) (fun h => by have := Own.blk_ge g8 h; omega) (fun c hc hf => by have := Own.blk_ge g8 hc; have := t8.a.lt hf; omega)
    refine cnd_neg rfl ⟨by omega, by omega, ?_⟩
    rw [Int.toNat_natCast, Nat.mul_one]
    refine ⟨c1, c2, 8 - (i + 1), by omega, i + 1, ts.set i o, hw, by omega, rfl, t9.e.trans u fun x hx he => ?_, t9.a.beside t9.o.nb u, t9.na, ?_, t9.m.keep u (fun h => t9.g12 h.symm) fun j t ht c hc => absurd hc (nilsb j t ht c), t9.g1, t9.g2, t9.g12, fun j t ht hc => ?_, fun j t ht => ⟨fun hc => nilsb j t ht _ hc, fun c hc => absurd hc (nilsb j t ht c), fun _ _ _ c hc => absurd hc (nilsb j t ht c), fun _ _ _ _ c hc => absurd hc (nilsb j t ht c)⟩⟩
    · have := t9.g1; omega
    · rw [← valsK_set hK hx]; exact c3
    · by_cases hj : i = j
      · subst hj
        have hit : i < ts.length := by rw [t8.o.tl, valsK_len hK hi]; omega
        rw [List.getElem?_set_self hit] at ht
        obtain rfl := Option.some.inj ht
        have := Own.blk_ge g8 hc; omega
      · rw [List.getElem?_set_ne hj] at ht
        exact t8.x1 j t ht hc
  · have hi8 : i = 8 := by omega
    subst hi8
    rw [valsK_all hK] at t8
    have hl1 := hs1.rd.len
    refine ⟨fun _ w' => ∃ (W : List Wr) (s' : SV) (ms : List SV) (M : List (List UInt8)), W.length ≤ 60 ∧ M.length = 8 ∧ Noted W M ∧ KS w w' B1 B2 d k s' { kept := K, waits := W, down := false, armed := 0, flips := fl } ts (K.map (·.1)) ms M ∧ ∀ l ∈ M, l.length ≤ 60, ?_, ?_⟩
    · refine ⟨fun m x w' => ∃ (i : Nat) (W : List Wr) (s' : SV) (ms : List SV) (M : List (List UInt8)), x = i ∧ m = 60 - i ∧ i ≤ 60 ∧ W.length ≤ i ∧ M.length = 8 ∧ Noted W M ∧ KS w w' B1 B2 d k s' { kept := K, waits := W, down := false, armed := 0, flips := fl } ts (K.map (·.1)) ms M ∧ ∀ l ∈ M, l.length ≤ i,
        ⟨_, 0, [], s5, _, _, rfl, rfl, by omega, by simp, by simp, fun p hp => by simp at hp, t8, fun l hl => by rw [List.eq_of_mem_replicate hl]; simp⟩, ?_⟩
      rintro m _ _ w9 ⟨i, W, s9, ms, M, rfl, rfl, hi, hWi, hM, hN, t9, hMl⟩
      have fin : ∃ (W : List Wr) (s' : SV) (ms : List SV) (M : List (List UInt8)), W.length ≤ 60 ∧ M.length = 8 ∧ Noted W M ∧ KS w w9 B1 B2 d k s' { kept := K, waits := W, down := false, armed := 0, flips := fl } ts (K.map (·.1)) ms M ∧ ∀ l ∈ M, l.length ≤ 60 :=
        ⟨W, s9, ms, M, by omega, hM, hN, t9, fun l hl => Nat.le_trans (hMl l hl) hi⟩
      refine ⟨fun _ w' => w9 = w' ∧ i < l1.length ∧ i < 60, cnd_dec (fun hlt => cnd_dec (fun hl => ⟨rfl, by omega, by omega⟩) fun _ => fin) (fun _ => fin), ?_⟩
      rintro _ _ _ ⟨rfl, hil, hi1⟩
      have hx : l1[i]? = some l1[i] := List.getElem?_eq_getElem hil
      generalize l1[i] = o at hx
      have hw : IntKind.i64.wrap ((i : Int) + 1) = ((i + 1 : Nat) : Int) := by rw [i64_id] <;> omega
      have td := t9.ext (ext_drew w9)
      have op : ∀ {w' : World} {A : Addr} {j : Nat} {v : Value}, s1.a = some A → Ext w w' → (encOp o)[j]? = some v → w'.cell? ((A.add (i * 6)).add j) = some v := fun hA e hv => ((hs1.rd.ext e).at_ hx hA) _ _ hv
      have gt : ∀ {K : Addr → Prop}, (∀ A, s1.a = some A → K A) → onP s1.a K := fun hk => hs1.rd.get (i := i) hil hk
      refine ⟨fun x w' => ∃ s', (x = false ∧ KS w w' B1 B2 d k s' { kept := K, waits := W, down := false, armed := 0, flips := fl } ts (K.map (·.1)) ms M) ∨ (x = true ∧ ∃ a : Nat, o.at_ = a ∧ a < 8 ∧ KS w w' B1 B2 d k s' { kept := K, waits := W ++ [(a, secOf (fullB (o.v.toNat : Int) false))], down := false, armed := 0, flips := fl } ts (K.map (·.1)) ms M), ?_, ?_⟩
      · refine ⟨fun w' => Ext w w', td.e, by omega, by omega, gt fun A hA => ⟨o.kind, fun w' h => by rw [Int.toNat_natCast]; exact op hA h rfl, cnd_beq (fun k0 => ?_) (fun k0 => ⟨td.e, td.e, s9, .inl ⟨rfl, td⟩⟩)⟩⟩
        refine ⟨by omega, by omega, gt fun A hA => ⟨o.at_, fun w' h => by rw [Int.toNat_natCast]; exact op hA h rfl, by omega, by omega, gt fun A hA => ⟨(o.v.toNat : Int), fun w' h => by rw [Int.toNat_natCast]; exact op hA h rfl, CallT.mono (full04.spec (o.v.toNat : Int) false _) ?_⟩⟩⟩
        rintro t w10 ⟨ht, e10⟩
        have t10 := td.ext e10
        refine ⟨t10.e, CallT.mono (disk_Write.spec t10.a (by simp only; omega) (at_ := o.at_) ht.rd fun c _ hc hs => ?_) ?_⟩
        · have := ht.blk_ge hc; have := td.a.wait.own.blk_lt hs; omega
        rintro _ w11 ⟨rfl, s11, h11⟩
        have t11 := t10.dk h11
        refine ⟨t11.e, s11, ?_⟩
        by_cases hr : 0 ≤ o.at_ ∧ o.at_ < 8
        · obtain ⟨a, ha⟩ : ∃ a : Nat, o.at_ = a := ⟨o.at_.toNat, by omega⟩
          have hwr : writeD { kept := K, waits := W, down := false, armed := 0, flips := fl } o.at_ (fullB (o.v.toNat : Int) false) = ({ kept := K, waits := W ++ [(a, secOf (fullB (o.v.toNat : Int) false))], down := false, armed := 0, flips := fl }, 0) := by
            rw [writeD_in rfl hr.1 (by simp only; omega) (fullB_len _), cntD_zero rfl, ha]
            rfl
          rw [hwr] at t11 ⊢
          exact .inr ⟨rfl, a, ha, by omega, t11⟩
        · have hwr : writeD { kept := K, waits := W, down := false, armed := 0, flips := fl } o.at_ (fullB (o.v.toNat : Int) false) = ({ kept := K, waits := W, down := false, armed := 0, flips := fl }, 1) := by
            rw [writeD, if_neg (by simp), if_pos (.inl (by simp only; omega))]
          rw [hwr] at t11 ⊢
          exact .inl ⟨rfl, t11⟩
      rintro x _ w10 ⟨s10, ⟨rfl, t10⟩ | ⟨rfl, a, ha, ha8, t10⟩⟩
      · exact cnd_neg rfl ⟨60 - (i + 1), by omega, i + 1, W, s10, ms, M, hw, rfl, by omega, by omega, hM, hN, t10, fun l hl => Nat.le_succ_of_le (hMl l hl)⟩
      · refine cnd_pos rfl ?_
        have td := t10.ext (ext_drew w10)
        have hl : M[a]? = some M[a] := List.getElem?_eq_getElem (by omega)
        have hms : a < ms.length := by rw [t10.m.tl]; omega
        have ht : ms[a]? = some ms[a] := List.getElem?_eq_getElem hms
        generalize M[a] = l at hl
        generalize ms[a] = t at ht
        obtain ⟨y1, y2, y3, y4⟩ := td.x2 a t ht
        obtain ⟨z1, z2, z3⟩ := td.m.own a t l ht hl
        have hcell : ∀ w' : World, BK w' B2 T.a8_sl_uint8 (ms.map slV) → w'.cell? (Addr.add ⟨B2, 0, none⟩ a) = some (slV t) := fun w' hb => hb.get a (by rw [List.getElem?_map, ht]; rfl)
        refine ⟨fun w' => Ext w w' ∧ BK w' B2 T.a8_sl_uint8 (ms.map slV), ⟨td.e, td.m.bk⟩, by omega, by omega, gt fun A hA => ⟨o.at_, fun w' h => by rw [Int.toNat_natCast]; exact op hA h.1 rfl, by omega, by omega, gt fun A hA => ⟨o.at_, fun w' h => by rw [Int.toNat_natCast]; exact op hA h.1 rfl, by omega, by omega, t, fun w' h => ?_, by omega, by omega, gt fun A hA => ⟨(o.v.toNat : Int), fun w' h => by rw [Int.toNat_natCast]; exact op hA h.1 rfl, ?_⟩⟩⟩⟩
        · rw [ha, Int.toNat_natCast, Nat.mul_one]; exact hcell w' h.2
        generalize hq : w10.drew.alloc _ = w11
        dsimp only
        obtain ⟨kq, eq, zq⟩ := bk_new (T := T.uint8) (vs := B8 [o.v]) hq
        have t11 := td.ext eq
        refine ⟨⟨t11.e, t11.m.bk⟩, ?_⟩
        have ot : OwnB w11 w.heap.size t l := ⟨(Own.ext z1 eq).len, (Own.ext z1 eq).is.imp id fun ⟨b, rest, hs, _, r⟩ => ⟨b, rest, hs, y2 b ⟨_, hs, rfl⟩, r⟩⟩
        have hsrc : RdB w11 ⟨some ⟨w10.drew.heap.size, 0, none⟩, 1, 1⟩ [o.v] := ⟨rfl, fun h => by simp at h, fun A hA => by obtain rfl := Option.some.inj hA; exact kq.all⟩
        have llen := hMl l (List.mem_of_getElem? hl)
        have tl := ot.lenB
        refine appV_ownL appB ot (hsrc.src (B8_one _)) t11.e.size (fun hc => ?_) fun t' w12 ot' _ u12 _ hw12 => ?_
        · have hc' : t.cap < t.len + 1 := hc
          have := nextcap_le hc'
          show Builtin.nextslicecap (t.len + 1) t.cap * 1 ≤ 281474976710656
          omega
        have hn : ∀ c, t'.blk c → t.blk c ∨ w11.heap.size ≤ c := fun c hc => by
          obtain ⟨A, hA, rfl⟩ := hc
          rcases hw12 with h | h
          · exact .inl ⟨A, h ▸ hA, rfl⟩
          · rw [h] at hA
            obtain rfl := Option.some.inj hA
            exact .inr (Nat.le_refl _)
        have ot2 : OwnB w12 w.heap.size t' (l ++ [o.v]) := by rw [OwnB, B8_append]; exact ot'
        obtain ⟨c1, c2, t13⟩ := t11.put ht hl u12 ot2 hn
        refine ⟨⟨t11.e.trans u12 fun x hx hb => absurd (y2 x hb) (by omega), t11.m.bk.upd u12 z2⟩, by omega, by omega, ?_⟩
        rw [ha, Int.toNat_natCast, Nat.mul_one]
        refine ⟨c1, c2, 60 - (i + 1), by omega, i + 1, _, s10, _, _, hw, rfl, by omega, by rw [List.length_append, List.length_singleton]; omega, by rw [List.length_set]; exact hM, hN.add hl (secOf_val (fullB_len _)), t13, fun x hx => ?_⟩
        rcases List.mem_or_eq_of_mem_set hx with h | rfl
        · exact Nat.le_succ_of_le (hMl x h)
        · rw [List.length_append, List.length_singleton]; omega
    rintro _ _ w9 ⟨W, s9, ms, M, hW, hM, hN, t9, hMl⟩
    refine CallT.mono (disk_Crash.spec t9.a (by simp only; omega) (t := s2) (keep := l2) fun w' u => hs2.ext (t9.e.trans u fun x hx hb => absurd (t9.na x hb) (by omega))) ?_
    rintro _ w10 ⟨_, s10, h10⟩
    refine CallT.mono (disk_Start.spec h10.at_) ?_
    rintro _ w11 ⟨_, s11, h11⟩
    have t11 := t9.dk (h10.tr h11)
    have hcr : startD (crashD { kept := K, waits := W, down := false, armed := 0, flips := fl } l2) = { kept := applyW K (keepW W l2), waits := [], down := false, armed := 0, flips := fl } := rfl
    rw [hcr] at t11
    refine ⟨fun m x w' => ∃ i : Nat, x = i ∧ i ≤ 8 ∧ m = 8 - i ∧ Ext w11 w', ⟨_, 0, rfl, by omega, rfl, Upd.refl _ _⟩, ?_⟩
    rintro m _ _ w12 ⟨j, rfl, hj, rfl, e12⟩
    refine cnd_dec (fun hlt => ?_) (fun hge => ⟨rfl, t11.e.trans e12 fun _ _ h => h⟩)
    have hw : IntKind.i64.wrap ((j : Int) + 1) = ((j + 1 : Nat) : Int) := by rw [i64_id] <;> omega
    have t12 := t11.ext e12
    refine CallT.mono (disk_Read.spec t12.a (by simp) j) ?_
    rintro ⟨o, e⟩ w13 ⟨g13, he, e13⟩
    have hj8 : j < (applyW K (keepW W l2)).length := by rw [applyW_len]; omega
    have hy := List.getElem?_eq_getElem hj8
    generalize (applyW K (keepW W l2))[j] = y at hy
    have hr : readD { kept := applyW K (keepW W l2), waits := [], down := false, armed := 0, flips := fl } (j : Int) = (y.1, 0) := by
      rw [readD, if_neg (by simp), if_neg (by simp only; omega)]
      simp only [showD, lastW, List.foldl_nil, Int.toNat_natCast, List.getD_eq_getElem?_getD, hy, Option.getD_some]
    rw [hr] at g13 he
    dsimp only at g13 he ⊢
    subst he
    have t13 := t12.ext e13
    have hx : K[j]? = some K[j] := List.getElem?_eq_getElem (by omega)
    generalize K[j] = x at hx
    obtain ⟨t, ht1, ht2⟩ := t13.o.get (i := j) (l := x.1) (by rw [List.getElem?_map, hx]; rfl)
    have hl : M[j]? = some M[j] := List.getElem?_eq_getElem (by omega)
    generalize M[j] = l at hl
    have hlaw : y = x ∨ ∃ v ∈ l, y.1 = fullB (v.toNat : Int) false := by
      rcases applyW_at _ _ _ _ hy with h | ⟨p, hp, h1, h2⟩
      · exact .inl (Option.some.inj (h.symm.trans hx))
      · obtain ⟨l', h3, v, h4, h5⟩ := hN p (keepW_mem hp)
        rw [h1, hl] at h3
        obtain rfl := Option.some.inj h3
        exact .inr ⟨v, h4, by rw [← h2]; exact h5⟩
    refine ⟨fun r w' => w13 = w' ∧ r = (y.1 == x.1), cnd_pos rfl ⟨by omega, by omega, t, ?_, CallT.mono (dunnagehelp_Bytes.spec g13.rd ht2) ?_⟩, ?_⟩
    · rw [Int.toNat_natCast, Nat.mul_one]; exact ht1
    · rintro _ _ ⟨rfl, rfl⟩; exact ⟨rfl, rfl⟩
    rintro _ _ _ ⟨rfl, rfl⟩
    have llen := hMl l (List.mem_of_getElem? hl)
    refine ⟨fun m' x' w' => ∃ (ok : Bool) (q : Nat), x' = (ok, (q : Int)) ∧ q ≤ l.length ∧ m' = l.length - q ∧ Ext w13 w' ∧ (ok = false → ∃ v ∈ l.drop q, y.1 = fullB (v.toNat : Int) false), ⟨_, _, 0, rfl, by omega, rfl, Upd.refl _ _, fun hf => ?_⟩, ?_⟩
    · rcases hlaw with h | h
      · rw [h] at hf; simp at hf
      · simpa using h
    rintro m' _ _ w14 ⟨ok, q, rfl, hq, rfl, e14, hok⟩
    have t14 := t13.ext e14
    dsimp only
    obtain ⟨u, hu1, hu2⟩ := t14.m.get hl
    have hul := hu2.lenB
    have hcell : w14.cell? (Addr.add ⟨B2, 0, none⟩ ((j : Int).toNat * 1)) = some (.slice u.a u.len u.cap) := by rw [Int.toNat_natCast, Nat.mul_one]; exact hu1
    refine ⟨by omega, by omega, u, hcell, cnd_dec (fun hlt2 => ?_) (fun hge2 => ?_)⟩
    · have hql : q < l.length := by omega
      have hwq : IntKind.i64.wrap ((q : Int) + 1) = ((q + 1 : Nat) : Int) := by rw [i64_id] <;> omega
      refine cnd_intro (fun ht => ?_) (fun hf => cnd_pos rfl ?_)
      · exact ⟨l.length - (q + 1), by omega, true, q + 1, by rw [hwq], by omega, rfl, e14, fun h => by simp at h⟩
      · have hv : l[q]? = some l[q] := List.getElem?_eq_getElem hql
        have hd : l.drop q = l[q] :: l.drop (q + 1) := List.drop_eq_getElem_cons hql
        generalize l[q] = v at hv hd
        refine ⟨by omega, by omega, u, hcell, by omega, by omega, SV.getB hu2 (i := q) hql fun A hA => ⟨(v.toNat : Int), ?_, CallT.mono (full04.spec (v.toNat : Int) false w14) ?_⟩⟩
        · rw [Int.toNat_natCast]; exact hu2.cellB hv hA
        rintro c w15 ⟨hc15, e15⟩
        refine CallT.mono (dunnagehelp_Bytes.spec ((g13.ext e14).ext e15).rd hc15.rd) ?_
        rintro _ _ ⟨rfl, rfl⟩
        refine ⟨l.length - (q + 1), by omega, _, q + 1, by rw [hwq], by omega, rfl, e14.trans e15 fun _ _ h => h, fun hne => ?_⟩
        obtain ⟨v', h1, h2⟩ := hok hf
        rw [hd] at h1
        rcases List.mem_cons.1 h1 with rfl | h1
        · rw [h2] at hne; simp at hne
        · exact ⟨v', h1, h2⟩
    · have hq' : q = l.length := by omega
      have hokt : ok = true := by
        cases ok
        · obtain ⟨v, h1, _⟩ := hok rfl
          rw [hq', List.drop_length] at h1; simp at h1
        · rfl
      exact cnd_neg (by rw [hokt]; rfl) ⟨8 - (j + 1), by omega, j + 1, hw, by omega, rfl, (e12.trans e13 fun _ _ h => h).trans e14 fun _ _ h => h⟩
end Go.Proofs
