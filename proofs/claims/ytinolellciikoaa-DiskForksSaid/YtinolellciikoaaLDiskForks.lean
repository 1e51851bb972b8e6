/- dunnagelaw04.DiskForks: a copy goes its own way. Conditions: both scripts are readable. -/
import Derived.Test.YtinolellciikoaaCond1
import Derived.Test.YtinolellciikoaaDisk5
import Derived.Test.YtinolellciikoaaByt
namespace Go.Proofs
open Go Go.Vc
/-- A device and two copies, apart. -/
structure Trio (w0 w : World) (d : Nat) (k s : SV) (D : DK) (df : Nat) (kf sf : SV) (F : DK) (dg : Nat) (kg sg : SV) (G : DK) : Prop where
  e : Ext w0 w
  a : DkAt w d k s D
  f : DkAt w df kf sf F
  g : DkAt w dg kg sg G
  na : ∀ b, fp d k s b → w0.heap.size ≤ b
  nf : ∀ b, fp df kf sf b → w0.heap.size ≤ b
  ng : ∀ b, fp dg kg sg b → w0.heap.size ≤ b
  af : ∀ b, fp d k s b → ¬ fp df kf sf b
  ag : ∀ b, fp d k s b → ¬ fp dg kg sg b
  fg : ∀ b, fp df kf sf b → ¬ fp dg kg sg b
section
variable {w0 w w' : World} {d df dg : Nat} {k s kf sf kg sg : SV} {D F G : DK}
theorem Trio.ext (h : Trio w0 w d k s D df kf sf F dg kg sg G) (e : Ext w w') : Trio w0 w' d k s D df kf sf F dg kg sg G :=
  ⟨h.e.trans e fun _ _ h => h, h.a.ext e, h.f.ext e, h.g.ext e, h.na, h.nf, h.ng, h.af, h.ag, h.fg⟩
theorem Trio.stepF {sf' : SV} {F' : DK} (h : Trio w0 w d k s D df kf sf F dg kg sg G) (t : DkTo w w' df kf sf sf' F') : Trio w0 w' d k s D df kf sf' F' dg kg sg G := by
  have z := h.e.size
  refine ⟨t.ext_of h.e h.nf, h.a.upd t.u h.af, t.at_, h.g.upd t.u fun b hb hf => h.fg b hf hb, h.na, fun b hb => ?_, h.ng, fun b hb hf => ?_, h.ag, fun b hb hg => ?_⟩
  · rcases t.fp' hb with h1 | h1
    · exact h.nf b h1
    · omega
  · rcases t.fp' hf with h1 | h1
    · exact h.af b hb h1
    · have := h.a.lt hb; omega
  · rcases t.fp' hb with h1 | h1
    · exact h.fg b h1 hg
    · have := h.g.lt hg; omega
theorem Trio.stepG {sg' : SV} {G' : DK} (h : Trio w0 w d k s D df kf sf F dg kg sg G) (t : DkTo w w' dg kg sg sg' G') : Trio w0 w' d k s D df kf sf F dg kg sg' G' := by
  have z := h.e.size
  refine ⟨t.ext_of h.e h.ng, h.a.upd t.u h.ag, h.f.upd t.u h.fg, t.at_, h.na, h.nf, fun b hb => ?_, h.af, fun b hb hf => ?_, fun b hb hg => ?_⟩
  · rcases t.fp' hb with h1 | h1
    · exact h.ng b h1
    · omega
  · rcases t.fp' hf with h1 | h1
    · exact h.ag b hb h1
    · have := h.a.lt hb; omega
  · rcases t.fp' hg with h1 | h1
    · exact h.fg b hb h1
    · have := h.f.lt hb; omega
end
theorem beq_self' {a b : Int} (h : a = b) : (a != b) = false := by subst h; simp
set_option maxRecDepth 100000 in
theorem dunnagelaw04_DiskForks.spec {w : World} {s0 s1 : SV} {l0 l1 : List OpV} (hs0 : RdOps w s0 l0) (hs1 : RdOps w s1 l1) :
    CallT [.one .bool] Try.prog F.dunnagelaw04_DiskForks [.slice s0.a s0.len s0.cap, .slice s1.a s1.len s1.cap] w fun r w' => r = true ∧ Ext w w' := by
  refine dunnagelaw04_DiskForks.vc s0 s1 w _ ?_
  refine CallT.mono (ran.spec hs0) ?_
  rintro _ w1 ⟨e1, d, k, s, rfl, h1, n1⟩
  obtain ⟨q1, q2, q3⟩ := runD_le (l0.take 100) (newD 8)
  have hl0 : (l0.take 100).length ≤ 100 := by rw [List.length_take]; omega
  have q2' : (runD (newD 8) (l0.take 100)).waits.length ≤ 100 := by have : (newD 8).waits.length = 0 := rfl; omega
  have q3' : (runD (newD 8) (l0.take 100)).flips ≤ 100 := by have : (newD 8).flips = 0 := rfl; omega
  generalize hD : runD (newD 8) (l0.take 100) = D at h1 q1 q2' q3'
  refine ⟨fun _ w' => Ext w1 w', CallT.mono (dunnagelaw04_awake.spec w1) ?_, ?_⟩
  · rintro _ w2 ⟨rfl, e2⟩
    exact cnd_neg rfl (cnd_neg rfl e2)
  rintro _ _ w2 e2
  have h2 := h1.ext e2
  refine CallT.mono (disk_Fork.spec h2 (by omega)) ?_
  rintro _ w3 ⟨e3, df, kf, sf, rfl, hf, nf⟩
  refine CallT.mono (disk_Fork.spec (h2.ext e3) (by omega)) ?_
  rintro _ w4 ⟨e4, dg, kg, sg, rfl, hg, ng⟩
  have x2 : Ext w w2 := e1.trans e2 fun _ _ h => h
  have x3 : Ext w w3 := x2.trans e3 fun _ _ h => h
  have x4 : Ext w w4 := x3.trans e4 fun _ _ h => h
  have t4 : Trio w w4 d k s D df kf sf D dg kg sg D :=
    ⟨x4, (h2.ext e3).ext e4, hf.ext e4, hg, n1, fun b hb => Nat.le_trans x2.size (nf b hb), fun b hb => Nat.le_trans x3.size (ng b hb),
      fun b hb hf' => by have := nf b hf'; have := h2.lt hb; omega, fun b hb hg' => by have := ng b hg'; have := (h2.ext e3).lt hb; omega, fun b hb hg' => by have := ng b hg'; have := hf.lt hb; omega⟩
  refine ⟨fun _ w' => w4 = w', cnd_neg rfl (cnd_neg rfl rfl), ?_⟩
  rintro _ _ _ rfl
  have hsl := hs1.rd.len
  refine ⟨fun _ w' => ∃ (sf' sg' : SV) (F : DK), Trio w w' d k s D df kf sf' F dg kg sg' F ∧ F.waits.length ≤ 160, ?_, ?_⟩
  · refine ⟨fun m x w' => ∃ (i : Nat) (sf' sg' : SV) (F : DK), x = i ∧ i ≤ 60 ∧ m = 60 - i ∧ Trio w w' d k s D df kf sf' F dg kg sg' F ∧ F.waits.length ≤ 100 + i ∧ F.flips ≤ 100 + i, ⟨_, 0, sf, sg, D, rfl, by omega, rfl, t4, by omega, by omega⟩, ?_⟩
    rintro m _ _ w5 ⟨i, sf5, sg5, F, rfl, hi2, rfl, t5, ws5, fl5⟩
    have fin : ∃ (sf' sg' : SV) (F : DK), Trio w w5 d k s D df kf sf' F dg kg sg' F ∧ F.waits.length ≤ 160 := ⟨sf5, sg5, F, t5, by omega⟩
    refine ⟨fun _ w' => w5 = w' ∧ i < l1.length ∧ i < 60, cnd_dec (fun hlt => cnd_dec (fun hl2 => ⟨rfl, by omega, by omega⟩) (fun hg => fin)) (fun hg => fin), ?_⟩
    rintro _ _ _ ⟨rfl, hil, hi1⟩
    have hx : l1[i]? = some l1[i] := List.getElem?_eq_getElem hil
    have hok := hs1.ok l1[i] (List.getElem_mem hil)
    generalize l1[i] = o at hx hok
    obtain ⟨hkeep, hn, hat⟩ := hok
    have hw : IntKind.i64.wrap ((i : Int) + 1) = ((i + 1 : Nat) : Int) := by rw [i64_id] <;> omega
    have h0s := hs1.rd.ext t5.e
    refine ⟨by omega, by omega, h0s.get (i := i) hil fun A hA => ⟨(o.kind, o.at_, o.n, (o.v.toNat : Int), o.short, o.s), ?_, ?_⟩⟩
    · rw [Int.toNat_natCast]; exact h0s.at_ hx hA
    generalize hc : w5.alloc _ = w6
    dsimp only
    generalize hd : setCells w6 _ 0 _ = w7
    obtain ⟨c7, b7, e7, z7⟩ := bk_mk (T := T.dunnagelaw04_Op) (z := [.int .i64 0, .int .i64 0, .int .i64 0, .int .u8 0, .bool false, .slice none 0 0]) (vs := encOp o) hc hd rfl
    refine ⟨c7, (o.v.toNat : Int), b7.get 3 rfl, o.short, b7.get 4 rfl, CallT.mono (full04.spec (o.v.toNat : Int) o.short _) ?_⟩
    rintro t w8 ⟨ht, e8⟩
    have e58 : Ext w5 w8 := e7.trans e8 fun _ _ h => h
    have t8 := t5.ext e58
    have b8 := b7.upd e8 id
    have nb : ∀ b, (fp df kf sf5 b ∨ fp dg kg sg5 b) → b ≠ w5.heap.size := fun b hb he => by
      rcases hb with hb | hb
      · have := t5.f.lt hb; omega
      · have := t5.g.lt hb; omega
    have next : ∀ (w' : World) (sf' sg' : SV) (F' : DK), DkLe F F' → Trio w w' d k s D df kf sf' F' dg kg sg' F' → ∃ m, m < 60 - i ∧ ∃ (i' : Nat) (sf' sg' : SV) (F : DK), IntKind.i64.wrap ((i : Int) + 1) = i' ∧ i' ≤ 60 ∧ m = 60 - i' ∧ Trio w w' d k s D df kf sf' F dg kg sg' F ∧ F.waits.length ≤ 100 + i' ∧ F.flips ≤ 100 + i' := by
      intro w' sf' sg' F' hle h'
      have := hle.ws; have := hle.fl
      exact ⟨60 - (i + 1), by omega, i + 1, sf', sg', F', hw, by omega, rfl, h', by omega, by omega⟩
    refine ⟨o.kind, b8.get 0 rfl, cnd_beq (fun k2 => ?_) (fun k2 => cnd_beq (fun k4 => ?_) (fun k4 => cnd_beq (fun k5 => ?_) (fun k5 => cnd_beq (fun k3 => ?_) (fun k3 => cnd_beq (fun k6 => ?_) (fun k6 => ?_)))))⟩
    · refine CallT.mono (disk_Flush.spec t8.f (by omega)) ?_
      rintro _ w9 ⟨rfl, s9, h9⟩
      have t9 := t8.stepF h9
      refine CallT.mono (disk_Flush.spec t9.g (by omega)) ?_
      rintro _ w10 ⟨rfl, s10, h10⟩
      exact cnd_neg (beq_self' rfl) (next _ _ _ _ (flushD_le F) (t9.stepG h10))
    · have kp : ∀ {v v' : World} {M : Nat → Prop}, Ext w v → Upd M v v' → (∀ b, M b → w.heap.size ≤ b) → RdBo v' o.s o.keep := fun ev u hm => hkeep.ext (ev.trans u fun x hx hb => absurd (hm x hb) (by omega))
      refine ⟨o.s, b8.get 5 rfl, CallT.mono (disk_Crash.spec t8.f (by omega) (t := o.s) (keep := o.keep) fun w' u => kp t8.e u t8.nf) ?_⟩
      rintro _ w9 ⟨_, s9, h9⟩
      have t9 := t8.stepF h9
      have b9 := b8.upd h9.u fun hb => nb _ (.inl hb) rfl
      refine ⟨o.s, b9.get 5 rfl, CallT.mono (disk_Crash.spec t9.g (by omega) (t := o.s) (keep := o.keep) fun w' u => kp t9.e u t9.ng) ?_⟩
      rintro _ w10 ⟨_, s10, h10⟩
      exact next _ _ _ _ (crashD_le F o.keep) (t9.stepG h10)
    · refine CallT.mono (disk_Start.spec t8.f) ?_
      rintro _ w9 ⟨_, s9, h9⟩
      have t9 := t8.stepF h9
      refine CallT.mono (disk_Start.spec t9.g) ?_
      rintro _ w10 ⟨_, s10, h10⟩
      exact next _ _ _ _ (startD_le F) (t9.stepG h10)
    · have td := t8.ext (ext_drew w8)
      have bd : BK w8.drew w5.heap.size T.dunnagelaw04_Op (encOp o) := b8
      refine ⟨fun w' => BK w' w5.heap.size T.dunnagelaw04_Op (encOp o), bd, o.n, fun _ h => h.get 2 rfl, o.n, fun _ h => h.get 2 rfl, CallT.mono (disk_Arm.spec td.f hn.2) ?_⟩
      rintro _ w9 ⟨rfl, h9⟩
      have t9 := td.stepF h9
      have b9 := bd.upd h9.u fun hb => nb _ (.inl hb) rfl
      refine ⟨b9, CallT.mono (disk_Arm.spec t9.g hn.2) ?_⟩
      rintro _ w10 ⟨rfl, h10⟩
      exact ⟨b9.upd h10.u fun hb => nb _ (.inr hb) rfl, cnd_neg (beq_self' rfl) (next _ _ _ _ (armD_le F _) (t9.stepG h10))⟩
    · have td := t8.ext (ext_drew w8)
      have bd : BK w8.drew w5.heap.size T.dunnagelaw04_Op (encOp o) := b8
      refine ⟨fun w' => BK w' w5.heap.size T.dunnagelaw04_Op (encOp o), bd, o.at_, fun _ h => h.get 1 rfl, o.n, fun _ h => h.get 2 rfl, o.at_, fun _ h => h.get 1 rfl, o.n, fun _ h => h.get 2 rfl, CallT.mono (disk_Flip.spec td.f (by omega) o.at_ o.n) ?_⟩
      rintro _ w9 ⟨rfl, h9⟩
      have t9 := td.stepF h9
      have b9 := bd.upd h9.u fun hb => nb _ (.inl hb) rfl
      refine ⟨b9, CallT.mono (disk_Flip.spec t9.g (by omega) o.at_ o.n) ?_⟩
      rintro _ w10 ⟨rfl, h10⟩
      exact ⟨b9.upd h10.u fun hb => nb _ (.inr hb) rfl, cnd_neg (beq_self' rfl) (next _ _ _ _ (flipD_le F _ _) (t9.stepG h10))⟩
    · have td := t8.ext (ext_drew w8)
      have bd : BK w8.drew w5.heap.size T.dunnagelaw04_Op (encOp o) := b8
      have htd := ht.ext (ext_drew w8)
      refine ⟨fun w' => BK w' w5.heap.size T.dunnagelaw04_Op (encOp o), bd, o.at_, fun _ h => h.get 1 rfl, o.at_, fun _ h => h.get 1 rfl, CallT.mono (disk_Write.spec td.f (by omega) (at_ := o.at_) htd.rd fun c _ hc hs => ?_) ?_⟩
      · have := ht.blk_ge hc; have := (t5.ext e7).f.wait.own.blk_lt hs; omega
      rintro _ w9 ⟨rfl, s9, h9⟩
      have t9 := td.stepF h9
      have b9 := bd.upd h9.u fun hb => nb _ (.inl hb) rfl
      have ht9 := htd.upd h9.u fun c hc hf => by have := ht.blk_ge hc; have := (t5.ext e7).f.lt hf; omega
      refine ⟨b9, CallT.mono (disk_Write.spec t9.g (by omega) (at_ := o.at_) ht9.rd fun c _ hc hs => ?_) ?_⟩
      · have := ht.blk_ge hc; have := (t5.ext e7).g.wait.own.blk_lt hs; omega
      rintro _ w10 ⟨rfl, s10, h10⟩
      exact ⟨b9.upd h10.u fun hb => nb _ (.inr hb) rfl, cnd_neg (beq_self' rfl) (next _ _ _ _ (writeD_le F _ _) (t9.stepG h10))⟩
  rintro _ _ w5 ⟨sf5, sg5, F, t5, ws5⟩
  refine CallT.mono (ran.spec (hs0.ext t5.e)) ?_
  rintro _ w6 ⟨e6, dh, kh, sh, rfl, h6, _⟩
  rw [hD] at h6
  have t6 := t5.ext e6
  refine ⟨fun _ w' => Ext w6 w', ?_, ?_⟩
  · refine ⟨fun m x w' => ∃ i : Nat, x = i ∧ i ≤ 8 ∧ m = 8 - i ∧ Ext w6 w', ⟨_, 0, rfl, by omega, rfl, Upd.refl _ _⟩, ?_⟩
    rintro m _ _ w7 ⟨i, rfl, hi, rfl, e7⟩
    refine ⟨fun _ w' => w7 = w' ∧ i < 8, cnd_pos rfl (cnd_dec (fun h => ⟨rfl, by omega⟩) (fun _ => e7)), ?_⟩
    rintro _ _ _ ⟨rfl, hi8⟩
    have hw : IntKind.i64.wrap ((i : Int) + 1) = ((i + 1 : Nat) : Int) := by rw [i64_id] <;> omega
    have t7 := t6.ext e7
    refine CallT.mono (disk_Read.spec t7.f (by omega) i) ?_
    rintro ⟨o1, r1⟩ w8 ⟨g1, rfl, e8⟩
    have t8 := t7.ext e8
    refine CallT.mono (disk_Read.spec t8.g (by omega) i) ?_
    rintro ⟨o2, r2⟩ w9 ⟨g2, rfl, e9⟩
    have t9 := t8.ext e9
    refine CallT.mono (disk_Read.spec t9.a (by omega) i) ?_
    rintro ⟨o3, r3⟩ w10 ⟨g3, rfl, e10⟩
    have h10 := (((h6.ext e7).ext e8).ext e9).ext e10
    refine CallT.mono (disk_Read.spec h10 (by omega) i) ?_
    rintro ⟨o4, r4⟩ w11 ⟨g4, rfl, e11⟩
    dsimp only at g1 g2 g3 g4 ⊢
    refine CallT.mono (dunnagehelp_Bytes.spec (((g1.ext e9).ext e10).ext e11).rd ((g2.ext e10).ext e11).rd) ?_
    rintro _ _ ⟨rfl, rfl⟩
    refine cnd_neg (by simp) (cnd_neg (beq_self' rfl) (CallT.mono (dunnagehelp_Bytes.spec (g3.ext e11).rd g4.rd) ?_))
    rintro _ _ ⟨rfl, rfl⟩
    have e711 : Ext w6 w11 := (((e7.trans e8 fun _ _ h => h).trans e9 fun _ _ h => h).trans e10 fun _ _ h => h).trans e11 fun _ _ h => h
    exact cnd_neg (by simp) (cnd_neg (beq_self' rfl) ⟨8 - (i + 1), by omega, i + 1, hw, by omega, rfl, e711⟩)
  rintro _ _ w7 e7
  have t7 := t6.ext e7
  have h7 := h6.ext e7
  refine cnd_pos rfl (CallT.mono (disk_Down.spec t7.f) ?_)
  rintro _ _ ⟨rfl, rfl⟩
  refine CallT.mono (disk_Down.spec t7.g) ?_
  rintro _ _ ⟨rfl, rfl⟩
  refine cnd_pos (by simp) (CallT.mono (disk_Waiting.spec t7.f) ?_)
  rintro _ _ ⟨rfl, rfl⟩
  refine CallT.mono (disk_Waiting.spec t7.g) ?_
  rintro _ _ ⟨rfl, rfl⟩
  refine cnd_pos (by simp) (CallT.mono (disk_Waiting.spec t7.a) ?_)
  rintro _ _ ⟨rfl, rfl⟩
  refine CallT.mono (disk_Waiting.spec h7) ?_
  rintro _ _ ⟨rfl, rfl⟩
  refine cnd_pos (by simp) (CallT.mono (disk_Down.spec t7.a) ?_)
  rintro _ _ ⟨rfl, rfl⟩
  refine CallT.mono (disk_Down.spec h7) ?_
  rintro _ _ ⟨rfl, rfl⟩
  exact ⟨by simp, t7.e⟩
end Go.Proofs
