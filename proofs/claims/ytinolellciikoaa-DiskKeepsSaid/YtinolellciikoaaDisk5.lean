/- dunnagelaw04.ran: a disk behind a script of calls. Conditions: the script is readable. -/
import Derived.Test.YtinolellciikoaaCond7
import Derived.Test.YtinolellciikoaaLDiskArmed
namespace Go.Proofs
open Go Go.Vc
structure OpV where
  kind : Int
  at_ : Int
  n : Int
  v : UInt8
  short : Bool
  s : SV
  keep : List Bool
@[reducible] def encOp (o : OpV) : List Value := [.int .i64 o.kind, .int .i64 o.at_, .int .i64 o.n, .int .u8 (o.v.toNat : Int), .bool o.short, .slice o.s.a o.s.len o.s.cap]
/-- A slice that reads as these calls. -/
structure RdOps (w : World) (s : SV) (l : List OpV) : Prop where
  rd : RdS encOp 6 w s l
  ok : ∀ o ∈ l, RdBo w o.s o.keep ∧ (-9223372036854775808 ≤ o.n ∧ o.n ≤ 9223372036854775807) ∧ -9223372036854775808 ≤ o.at_ ∧ o.at_ ≤ 9223372036854775807
theorem RdOps.ext {w w' : World} {s : SV} {l : List OpV} (h : RdOps w s l) (e : Ext w w') : RdOps w' s l := ⟨h.rd.ext e, fun o ho => ⟨(h.ok o ho).1.ext e, (h.ok o ho).2⟩⟩
theorem ops_rel {w : World} {bd : TypeId → Nat → Prop} {bs : Nat → Prop} {e e' : TypeId} {a : Option Addr} {len cap : Nat}
    (h : DS.rel w bd bs (.slice e 6 (.struct (.cons 0 1 (.int .i64) (.cons 1 1 (.int .i64) (.cons 2 1 (.int .i64) (.cons 3 1 (.int .u8) (.cons 4 1 .bool (.cons 5 1 (.slice e' 1 .bool) .nil)))))))) [.slice a len cap]) :
    ∃ l : List OpV, RdOps w ⟨a, len, cap⟩ l := by
  have key : ∀ es : List Value, es.length = 6 → DS.rel w bd bs (.struct (.cons 0 1 (.int .i64) (.cons 1 1 (.int .i64) (.cons 2 1 (.int .i64) (.cons 3 1 (.int .u8) (.cons 4 1 .bool (.cons 5 1 (.slice e' 1 .bool) .nil))))))) es →
      ∃ o : OpV, encOp o = es ∧ (RdBo w o.s o.keep ∧ (-9223372036854775808 ≤ o.n ∧ o.n ≤ 9223372036854775807) ∧ -9223372036854775808 ≤ o.at_ ∧ o.at_ ≤ 9223372036854775807) := by
    intro es hl hr
    match es, hl with
    | [v0, v1, v2, v3, v4, v5], _ =>
      obtain ⟨⟨n0, h0, w0⟩, ⟨n1, h1, w1⟩, ⟨n2, h2, w2⟩, ⟨n3, h3, w3⟩, ⟨b4, h4⟩, h5, _⟩ := hr
      obtain ⟨a5, l5, c5, h50, _⟩ := id h5
      obtain ⟨keep, hk, _⟩ := bools_rel (h50 ▸ h5)
      have hb : IntKind.u8.min ≤ n3 ∧ n3 ≤ IntKind.u8.max := by simpa [Lit.wf] using w3
      have g0 : 0 ≤ n3 := hb.1
      have g1 : n3 ≤ 255 := hb.2
      have hx : ((UInt8.ofNat n3.toNat).toNat : Int) = n3 := by
        have : (UInt8.ofNat n3.toNat).toNat = n3.toNat := by simp; omega
        rw [this]; omega
      have c1 : IntKind.i64.min ≤ n1 ∧ n1 ≤ IntKind.i64.max := by simpa [Lit.wf] using w1
      have b1 : -9223372036854775808 ≤ n1 ∧ n1 ≤ 9223372036854775807 := c1
      have c2 : IntKind.i64.min ≤ n2 ∧ n2 ≤ IntKind.i64.max := by simpa [Lit.wf] using w2
      have b2 : -9223372036854775808 ≤ n2 ∧ n2 ≤ 9223372036854775807 := c2
      refine ⟨⟨n0, n1, n2, UInt8.ofNat n3.toNat, b4, ⟨a5, l5, c5⟩, keep⟩, ?_, hk, b2, b1⟩
      simp only [List.drop_zero, List.drop_succ_cons, List.take_succ_cons, List.take_zero, List.cons.injEq, and_true] at h0 h1 h2 h3 h4 h50
      subst h0 h1 h2 h3 h4 h50
      rw [encOp, hx]
  obtain ⟨l, h1, h2, h3, h4⟩ := DS.flat (enc := encOp) (fun o => RdBo w o.s o.keep ∧ (-9223372036854775808 ≤ o.n ∧ o.n ≤ 9223372036854775807) ∧ -9223372036854775808 ≤ o.at_ ∧ o.at_ ≤ 9223372036854775807) h (fun _ => rfl) (by decide) key
  exact ⟨l, h1, h4⟩
def stepD (D : DK) (o : OpV) : DK :=
  if o.kind = 1 then D else if o.kind = 2 then (flushD D).1 else if o.kind = 3 then (armD D o.n).1 else if o.kind = 4 then crashD D o.keep else if o.kind = 5 then startD D
  else if o.kind = 6 then (flipD D o.at_ o.n).1 else (writeD D o.at_ (fullB (o.v.toNat : Int) o.short)).1
def runD (D : DK) (l : List OpV) : DK := l.foldl stepD D
structure DkLe (D D' : DK) : Prop where
  len : D'.kept.length = D.kept.length
  ws : D'.waits.length ≤ D.waits.length + 1
  fl : D'.flips ≤ D.flips + 1
theorem DkLe.rfl' (D : DK) : DkLe D D := ⟨rfl, by omega, by omega⟩
theorem cntD_le (D : DK) : DkLe D (cntD D).1 := by
  obtain ⟨a, b, c⟩ := cntD_kept D
  exact ⟨by rw [a], by rw [b]; omega, by rw [c]; omega⟩
theorem flushD_le (D : DK) : DkLe D (flushD D).1 := by
  unfold flushD
  split
  · exact DkLe.rfl' D
  split
  · exact cntD_le D
  · obtain ⟨a, b, c⟩ := cntD_kept D
    exact ⟨by simp only [applyW_len], by simp, by simp only [c]; omega⟩
theorem armD_le (D : DK) (n : Int) : DkLe D (armD D n).1 := by
  unfold armD
  split
  · exact DkLe.rfl' D
  · exact ⟨rfl, by simp, by simp⟩
theorem crashD_le (D : DK) (keep : List Bool) : DkLe D (crashD D keep) := ⟨by simp only [crashD, applyW_len], by simp [crashD], by simp [crashD]⟩
theorem startD_le (D : DK) : DkLe D (startD D) := by
  unfold startD
  split
  · exact ⟨rfl, by simp, by simp⟩
  · exact DkLe.rfl' D
theorem flipD_le (D : DK) (a b : Int) : DkLe D (flipD D a b).1 := by
  unfold flipD
  split
  · exact DkLe.rfl' D
  · exact ⟨by simp only [List.length_set], by simp, by simp⟩
theorem writeD_le (D : DK) (a : Int) (b : List UInt8) : DkLe D (writeD D a b).1 := by
  unfold writeD
  split
  · exact DkLe.rfl' D
  split
  · exact DkLe.rfl' D
  · obtain ⟨x, y, z⟩ := cntD_kept { D with waits := D.waits ++ [(a.toNat, secOf b)] }
    exact ⟨by rw [x], by rw [y]; simp, by rw [z]; simp⟩
theorem stepD_le (D : DK) (o : OpV) : DkLe D (stepD D o) := by
  unfold stepD
  repeat' split
  · exact DkLe.rfl' D
  · exact flushD_le D
  · exact armD_le D _
  · exact crashD_le D _
  · exact startD_le D
  · exact flipD_le D _ _
  · exact writeD_le D _ _
theorem runD_snoc (D : DK) (l : List OpV) (o : OpV) : runD D (l ++ [o]) = stepD (runD D l) o := by simp [runD]
theorem runD_le : ∀ (l : List OpV) (D : DK), (runD D l).kept.length = D.kept.length ∧ (runD D l).waits.length ≤ D.waits.length + l.length ∧ (runD D l).flips ≤ D.flips + l.length
  | [], D => ⟨rfl, by simp [runD], by simp [runD]⟩
  | o :: l, D => by
    have h := stepD_le D o
    obtain ⟨a, b, c⟩ := runD_le l (stepD D o)
    have h1 := h.len; have h2 := h.ws; have h3 := h.fl
    have he : runD D (o :: l) = runD (stepD D o) l := rfl
    rw [he, List.length_cons]
    exact ⟨by omega, by omega, by omega⟩
theorem ran_take {l : List OpV} {i : Nat} {o : OpV} (h : l[i]? = some o) : runD (newD 8) (l.take (i + 1)) = stepD (runD (newD 8) (l.take i)) o := by
  rw [List.take_add_one, h, Option.toList_some, runD_snoc]
set_option maxRecDepth 100000 in
theorem ran.spec {w : World} {s0 : SV} {l : List OpV} (hs : RdOps w s0 l) :
    CallT [.one .ptr] Try.prog F.dunnagelaw04_ran [.slice s0.a s0.len s0.cap] w fun r w' => Ext w w' ∧ ∃ d k s, r = some ⟨d, 0, none⟩ ∧ DkAt w' d k s (runD (newD 8) (l.take 100)) ∧ ∀ b, fp d k s b → w.heap.size ≤ b := by
  refine dunnagelaw04_ran.vc s0 w _ ?_
  refine CallT.mono (disk_New.spec 8 w) ?_
  rintro r w1 ⟨e1, h | ⟨_, d, k, s, rfl, h1, hf⟩⟩
  · omega
  have hD : newD (Int.toNat 8) = newD 8 := rfl
  rw [hD] at h1
  refine ⟨fun _ w' => w1 = w', cnd_neg rfl (cnd_neg rfl rfl), ?_⟩
  rintro _ _ _ rfl
  have hsl := hs.rd.len
  refine ⟨fun m x w' => ∃ (i : Nat) (s' : SV), x = i ∧ i ≤ l.length ∧ i ≤ 100 ∧ m = 100 - i ∧ DkTo w1 w' d k s s' (runD (newD 8) (l.take i)), ⟨_, 0, s, rfl, by omega, by omega, rfl, h1.to⟩, ?_⟩
  rintro m _ _ w2 ⟨i, s2, rfl, hi, hi2, rfl, h2⟩
  have x2 : Ext w w2 := h2.ext_of e1 hf
  have fin : (i = l.length ∨ i = 100) → (fun r w' => Ext w w' ∧ ∃ d k s, r = some (⟨d, 0, none⟩ : Addr) ∧ DkAt w' d k s (runD (newD 8) (l.take 100)) ∧ ∀ b, fp d k s b → w.heap.size ≤ b : Option Addr → World → Prop) (some ⟨d, 0, none⟩) w2 := by
    intro he
    have : l.take i = l.take 100 := by
      rcases he with he | he
      · rw [List.take_of_length_le (by omega), List.take_of_length_le (by omega)]
      · rw [he]
    rw [this] at h2
    refine ⟨x2, d, k, s2, rfl, h2.at_, fun b hb => ?_⟩
    rcases h2.fp' hb with h | h
    · exact hf b h
    · exact Nat.le_trans e1.size h
  refine ⟨fun _ w' => w2 = w' ∧ i < l.length ∧ i < 100, cnd_dec (fun hlt => cnd_dec (fun hl2 => ⟨rfl, by omega, by omega⟩) (fun hg => fin (.inr (by omega)))) (fun hg => fin (.inl (by omega))), ?_⟩
  rintro _ _ _ ⟨rfl, hil, hi1⟩
  have hx : l[i]? = some l[i] := List.getElem?_eq_getElem hil
  have hok := hs.ok l[i] (List.getElem_mem hil)
  generalize l[i] = o at hx hok
  obtain ⟨hkeep, hn, hat⟩ := hok
  have hw : IntKind.i64.wrap ((i : Int) + 1) = ((i + 1 : Nat) : Int) := by rw [i64_id] <;> omega
  have h0s := hs.rd.ext x2
  obtain ⟨q1, q2, q3⟩ := runD_le (l.take i) (newD 8)
  have hlt : (l.take i).length = i := by rw [List.length_take]; omega
  rw [hlt] at q2 q3
  have q2' : (runD (newD 8) (l.take i)).waits.length ≤ i := by simpa [newD] using q2
  have q3' : (runD (newD 8) (l.take i)).flips ≤ i := by simpa [newD] using q3
  refine ⟨by omega, by omega, h0s.get (i := i) hil fun A hA => ⟨(o.kind, o.at_, o.n, (o.v.toNat : Int), o.short, o.s), ?_, ?_⟩⟩
  · rw [Int.toNat_natCast]; exact h0s.at_ hx hA
  generalize hc : w2.alloc _ = w3
  dsimp only
  generalize hd : setCells w3 _ 0 _ = w4
  obtain ⟨c4, b4, e4, z4⟩ := bk_mk (T := T.dunnagelaw04_Op) (z := [.int .i64 0, .int .i64 0, .int .i64 0, .int .u8 0, .bool false, .slice none 0 0]) (vs := encOp o) hc hd rfl
  have h4 := h2.ext e4
  have a4 := h4.at_
  have next : ∀ (w' : World) (s' : SV), DkTo w4 w' d k s2 s' (stepD (runD (newD 8) (l.take i)) o) → ∃ m, m < 100 - i ∧ ∃ (i' : Nat) (s' : SV), IntKind.i64.wrap ((i : Int) + 1) = i' ∧ i' ≤ l.length ∧ i' ≤ 100 ∧ m = 100 - i' ∧ DkTo w1 w' d k s s' (runD (newD 8) (l.take i')) := by
    intro w' s' h'
    refine ⟨100 - (i + 1), by omega, i + 1, s', hw, by omega, by omega, rfl, ?_⟩
    rw [ran_take hx]
    exact h4.tr h'
  refine ⟨c4, o.kind, b4.get 0 rfl, cnd_beq (fun k1 => ?_) (fun k1 => cnd_beq (fun k2 => ?_) (fun k2 => cnd_beq (fun k3 => ?_) (fun k3 => cnd_beq (fun k4 => ?_) (fun k4 => cnd_beq (fun k5 => ?_) (fun k5 => cnd_beq (fun k6 => ?_) (fun k6 => ?_))))))⟩
  · refine ⟨o.at_, b4.get 1 rfl, CallT.mono (disk_Read.spec a4 (by omega) o.at_) ?_⟩
    rintro _ w5 ⟨_, _, e5⟩
    refine next w5 s2 ?_
    rw [stepD, if_pos k1]
    exact a4.to.ext e5
  · refine CallT.mono (disk_Flush.spec a4 (by omega)) ?_
    rintro _ w5 ⟨_, s5, h5⟩
    refine next w5 s5 ?_
    rw [stepD, if_neg k1, if_pos k2]
    exact h5
  · refine ⟨o.n, b4.get 2 rfl, CallT.mono (disk_Arm.spec a4 hn.2) ?_⟩
    rintro _ w5 ⟨_, h5⟩
    refine next w5 s2 ?_
    rw [stepD, if_neg k1, if_neg k2, if_pos k3]
    exact h5
  · refine ⟨o.s, b4.get 5 rfl, CallT.mono (disk_Crash.spec a4 (by omega) (t := o.s) (keep := o.keep) fun w' u => hkeep.ext ((x2.trans e4 fun _ _ h => h).trans u fun x hx hb => ?_)) ?_⟩
    · rcases h2.fp' hb with h | h
      · have := hf x h; omega
      · have := e1.size; omega
    · rintro _ w5 ⟨_, s5, h5⟩
      refine next w5 s5 ?_
      rw [stepD, if_neg k1, if_neg k2, if_neg k3, if_pos k4]
      exact h5
  · refine CallT.mono (disk_Start.spec a4) ?_
    rintro _ w5 ⟨_, s5, h5⟩
    refine next w5 s5 ?_
    rw [stepD, if_neg k1, if_neg k2, if_neg k3, if_neg k4, if_pos k5]
    exact h5
  · refine ⟨o.at_, b4.get 1 rfl, o.n, b4.get 2 rfl, CallT.mono (disk_Flip.spec a4 (by omega) o.at_ o.n) ?_⟩
    rintro _ w5 ⟨_, h5⟩
    refine next w5 s2 ?_
    rw [stepD, if_neg k1, if_neg k2, if_neg k3, if_neg k4, if_neg k5, if_pos k6]
    exact h5
  · have e5 : Ext w4 w4.drew := ext_drew _
    have b5 : BK w4.drew w2.heap.size T.dunnagelaw04_Op (encOp o) := b4
    refine ⟨fun w' => BK w' w2.heap.size T.dunnagelaw04_Op (encOp o), b5, o.at_, fun _ h => h.get 1 rfl, (o.v.toNat : Int), fun _ h => h.get 3 rfl, o.short, fun _ h => h.get 4 rfl, CallT.mono (full04.spec (o.v.toNat : Int) o.short _) ?_⟩
    rintro t w6 ⟨ht, e6⟩
    have b6 := b5.upd e6 id
    refine ⟨b6, ?_⟩
    have e46 : Ext w4 w6 := e5.trans e6 fun _ _ h => h
    have a6 := a4.ext e46
    refine CallT.mono (disk_Write.spec a6 (by omega) (at_ := o.at_) ht.rd fun c _ hc hs => ?_) ?_
    · have := ht.blk_ge hc; have := (a4.ext e5).wait.own.blk_lt hs; omega
    rintro _ w7 ⟨_, s7, h7⟩
    refine ⟨b6.upd h7.u fun hb => ?_, next w7 s7 ?_⟩
    · have := h2.at_.lt hb; omega
    · rw [stepD, if_neg k1, if_neg k2, if_neg k3, if_neg k4, if_neg k5, if_neg k6]
      exact DkTo.pre e46 h7
end Go.Proofs
