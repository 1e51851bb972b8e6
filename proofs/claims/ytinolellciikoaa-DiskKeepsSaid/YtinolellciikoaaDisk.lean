/- disk: a device in memory; ready, has, hit, counted, Arm, Start, Down, Waiting, Flips, Size. Conditions: those of each contract. -/
import Derived.Test.YtinolellciikoaaCond7
import Derived.Test.YtinolellciikoaaCond8
import Derived.Test.YtinolellciikoaaCond13
import Derived.Test.YtinolellciikoaaHelp
import Derived.Test.YtinolellciikoaaSetS
import Derived.Test.YtinolellciikoaaBlk
namespace Go.Proofs
open Go Go.Vc

/-! ### the device, in plain Lean -/
abbrev Sec := {l : List UInt8 // l.length = 512}
def zeroSec : Sec := ⟨List.replicate 512 0, List.length_replicate⟩
abbrev Wr := Nat × Sec
@[reducible] def encSec (x : Sec) : List Value := B8 x.1
@[reducible] def encWr (p : Wr) : List Value := .int .i64 (p.1 : Int) :: B8 p.2.1
theorem encSec_len (x : Sec) : (encSec x).length = 512 := by rw [encSec, B8_length]; exact x.2
theorem encWr_len (p : Wr) : (encWr p).length = 513 := by rw [encWr, List.length_cons, B8_length, p.2.2]
theorem encSec_one (x : Sec) : ∀ v ∈ encSec x, v.oneCell' = true := B8_one _
theorem encWr_one (p : Wr) : ∀ v ∈ encWr p, v.oneCell' = true := by
  intro v hv
  rcases List.mem_cons.1 hv with rfl | hv
  · rfl
  · exact B8_one _ v hv
theorem B8_oneV (l : List UInt8) : ∀ v ∈ B8 l, oneV v True := by
  intro v hv
  obtain ⟨b, _, rfl⟩ := List.mem_map.1 hv
  trivial
theorem encWr_oneV (p : Wr) : ∀ v ∈ encWr p, oneV v True := by
  intro v hv
  rcases List.mem_cons.1 hv with rfl | hv
  · trivial
  · exact B8_oneV _ v hv
structure DK where
  kept : List Sec
  waits : List Wr
  down : Bool
  armed : Nat
  flips : Nat
def hitD (D : DK) : DK × Bool := if D.armed = 0 then (D, false) else ({ D with armed := D.armed - 1 }, D.armed - 1 == 0)
def cntD (D : DK) : DK × Int := if (hitD D).2 = true then ({ (hitD D).1 with down := true }, 40) else ((hitD D).1, 0)
def armD (D : DK) (n : Int) : DK × Int := if D.down = true then (D, 40) else ({ D with armed := (max n 0).toNat }, 0)
def startD (D : DK) : DK := if D.down = true then { D with waits := [], armed := 0, down := false } else D

/-! ### the device in memory -/
/-- The blocks of a device. -/
def fp (d : Nat) (k s : SV) (b : Nat) : Prop := b = d ∨ k.blk b ∨ s.blk b
@[reducible] def dkVs (k s : SV) (D : DK) : List Value := [.slice k.a k.len k.cap, .slice s.a s.len s.cap, .bool D.down, .int .i64 (D.armed : Int), .int .i64 (D.flips : Int)]
structure DkAt (w : World) (d : Nat) (k s : SV) (D : DK) : Prop where
  blk : BK w d T.disk_Disk (dkVs k s D)
  kept : OwnS encSec 512 T.disk_content w 0 k D.kept
  wait : OwnS encWr 513 T.disk_write w 0 s D.waits
  dk : ¬ k.blk d
  ds : ¬ s.blk d
  ks : ∀ b, k.blk b → ¬ s.blk b
  rng : ∀ p ∈ D.waits, p.1 < D.kept.length
  num : D.kept.length ≤ 65536
  arm : D.armed < 9223372036854775808
theorem DkAt.upd {M : Nat → Prop} {w w' : World} {d : Nat} {k s : SV} {D : DK} (h : DkAt w d k s D) (u : Upd M w w') (hm : ∀ b, fp d k s b → ¬ M b) : DkAt w' d k s D :=
  ⟨h.blk.upd u (hm _ (.inl rfl)), ⟨h.kept.own.upd u fun b hb => hm b (.inr (.inl hb)), h.kept.esz, h.kept.pos⟩, ⟨h.wait.own.upd u fun b hb => hm b (.inr (.inr hb)), h.wait.esz, h.wait.pos⟩, h.dk, h.ds, h.ks, h.rng, h.num, h.arm⟩
theorem DkAt.ext {w w' : World} {d : Nat} {k s : SV} {D : DK} (h : DkAt w d k s D) (u : Ext w w') : DkAt w' d k s D := h.upd u fun _ _ => id
theorem DkAt.lt {w : World} {d : Nat} {k s : SV} {D : DK} (h : DkAt w d k s D) {b : Nat} (hb : fp d k s b) : b < w.heap.size := by
  rcases hb with rfl | hb | hb
  · exact h.blk.lt
  · exact h.kept.own.blk_lt hb
  · exact h.wait.own.blk_lt hb
/-- What a call made of a device. -/
structure DkTo (w w' : World) (d : Nat) (k s s' : SV) (D' : DK) : Prop where
  at_ : DkAt w' d k s' D'
  u : Upd (fp d k s) w w'
  n : ∀ b, s'.blk b → s.blk b ∨ w.heap.size ≤ b
theorem DkAt.to {w : World} {d : Nat} {k s : SV} {D : DK} (h : DkAt w d k s D) : DkTo w w d k s s D := ⟨h, Upd.refl _ _, fun _ hb => .inl hb⟩
theorem DkTo.ext {w w1 w2 : World} {d : Nat} {k s s' : SV} {D' : DK} (h : DkTo w w1 d k s s' D') (e : Ext w1 w2) : DkTo w w2 d k s s' D' :=
  ⟨h.at_.ext e, h.u.trans e fun _ _ h => h.elim, h.n⟩
theorem DkTo.fp' {w w1 : World} {d : Nat} {k s s1 : SV} {D1 : DK} (h : DkTo w w1 d k s s1 D1) {b : Nat} (hb : fp d k s1 b) : fp d k s b ∨ w.heap.size ≤ b := by
  rcases hb with hb | hb | hb
  · exact .inl (.inl hb)
  · exact .inl (.inr (.inl hb))
  · rcases h.n b hb with h | h
    · exact .inl (.inr (.inr h))
    · exact .inr h
theorem DkTo.tr {w w1 w2 : World} {d : Nat} {k s s1 s2 : SV} {D1 D2 : DK} (h : DkTo w w1 d k s s1 D1) (g : DkTo w1 w2 d k s1 s2 D2) : DkTo w w2 d k s s2 D2 :=
  ⟨g.at_, h.u.trans g.u fun x hx hf => (h.fp' hf).resolve_right (by omega), fun b hb => by
    rcases g.n b hb with h1 | h1
    · exact h.n b h1
    · exact .inr (Nat.le_trans h.u.size h1)⟩
theorem DkTo.pre {w w1 w2 : World} {d : Nat} {k s s2 : SV} {D2 : DK} (e : Ext w w1) (g : DkTo w1 w2 d k s s2 D2) : DkTo w w2 d k s s2 D2 :=
  ⟨g.at_, (e.to _).trans g.u fun _ _ h => h, fun b hb => (g.n b hb).imp id fun h => Nat.le_trans e.size h⟩
/-- What a device turned is new, if the device is. -/
theorem DkTo.ext_of {w0 w w' : World} {d : Nat} {k s s' : SV} {D' : DK} (h : DkTo w w' d k s s' D') (e : Ext w0 w) (hb : ∀ b, fp d k s b → w0.heap.size ≤ b) : Ext w0 w' :=
  e.trans h.u fun x hx hf => absurd (hb x hf) (by omega)
/-- A plain field is set. -/
theorem DkAt.put {w : World} {d : Nat} {k s : SV} {D : DK} (h : DkAt w d k s D) (i : Nat) (hi : i < 5) (v : Value) (D' : DK) (hl : (dkVs k s D).set i v = dkVs k s D') (hk : D'.kept = D.kept) (hw : D'.waits = D.waits) (ha : D'.armed < 9223372036854775808) :
    (w.cell? (Addr.add ⟨d, 0, none⟩ i)).isSome = true ∧ w.frozen? (Addr.add ⟨d, 0, none⟩ i) = false ∧ DkTo w (w.setCell (Addr.add ⟨d, 0, none⟩ i) v) d k s s D' := by
  obtain ⟨a, b, c⟩ := h.blk.store i hi v
  rw [hl] at c
  have u : Upd (fun b => b = d) w (w.setCell (Addr.add ⟨d, 0, none⟩ i) v) := (Upd.refl _ w).set (p := Addr.add ⟨d, 0, none⟩ i) (fun _ => by simp) v
  refine ⟨a, b, ⟨c, ?_, ?_, h.dk, h.ds, h.ks, by rw [hk, hw]; exact h.rng, by rw [hk]; exact h.num, ha⟩, u.mono fun x _ hx => .inl hx, fun _ hb => .inl hb⟩
  · rw [hk]; exact ⟨h.kept.own.upd u fun b hb e => h.dk (e ▸ hb), h.kept.esz, h.kept.pos⟩
  · rw [hw]; exact ⟨h.wait.own.upd u fun b hb e => h.ds (e ▸ hb), h.wait.esz, h.wait.pos⟩
/-- The list of what waits is exchanged. -/
theorem DkAt.putW {w w1 : World} {d : Nat} {k s s' : SV} {D : DK} {l : List Wr} (h : DkAt w d k s D) (u : Upd s.blk w w1) (ho : OwnS encWr 513 T.disk_write w1 0 s' l) (hn : ∀ b, s'.blk b → s.blk b ∨ w.heap.size ≤ b) (hr : ∀ p ∈ l, p.1 < D.kept.length) :
    (w1.cell? (Addr.add ⟨d, 0, none⟩ 1)).isSome = true ∧ w1.frozen? (Addr.add ⟨d, 0, none⟩ 1) = false ∧ DkTo w (w1.setCell (Addr.add ⟨d, 0, none⟩ 1) (.slice s'.a s'.len s'.cap)) d k s s' { D with waits := l } := by
  have b1 := h.blk.upd u h.ds
  obtain ⟨a, b, c⟩ := b1.store 1 (by simp) (.slice s'.a s'.len s'.cap)
  have hd := h.blk.lt
  have u2 : Upd (fun b => b = d) w1 (w1.setCell (Addr.add ⟨d, 0, none⟩ 1) (.slice s'.a s'.len s'.cap)) := (Upd.refl _ w1).set (p := Addr.add ⟨d, 0, none⟩ 1) (fun _ => by simp) _
  have hds : ¬ s'.blk d := fun hb => by
    rcases hn d hb with h1 | h1
    · exact h.ds h1
    · omega
  refine ⟨a, b, ⟨c, ⟨(h.kept.own.upd u fun b hb => h.ks b hb).upd u2 fun b hb e => h.dk (e ▸ hb), h.kept.esz, h.kept.pos⟩, ⟨ho.own.upd u2 fun b hb e => hds (e ▸ hb), ho.esz, ho.pos⟩, h.dk, hds, fun b hb hs => ?_, hr, h.num, h.arm⟩, ?_, hn⟩
  · rcases hn b hs with h1 | h1
    · exact h.ks b hb h1
    · have := h.kept.own.blk_lt hb; omega
  · exact (u.mono fun x _ hx => .inr (.inr hx)).trans (u2.mono fun x _ hx => .inl hx) fun x _ hx => hx
/-- A kept sector is exchanged. -/
theorem DkAt.setk {w : World} {d : Nat} {k s : SV} {D : DK} (h : DkAt w d k s D) {i : Nat} (hi : i < D.kept.length) {A : Addr} (hA : k.a = some A) (y : Sec) :
    canSt w (A.add (i * 512)) (encSec y).length ∧ DkTo w (setCells w (A.add (i * 512)) 0 (encSec y)) d k s s { D with kept := D.kept.set i y } := by
  obtain ⟨c, ho, z, u⟩ := h.kept.setx hi hA y
  refine ⟨c, ⟨h.blk.upd u h.dk, ho, ⟨h.wait.own.upd u fun b hb hk => h.ks b hk hb, h.wait.esz, h.wait.pos⟩, h.dk, h.ds, h.ks, ?_, ?_, h.arm⟩, u.mono fun x _ hx => .inr (.inl hx), fun _ hb => .inl hb⟩
  · simp only [List.length_set]; exact h.rng
  · simp only [List.length_set]; exact h.num
theorem bigAt {w : World} {A : Addr} {vs : List Value} (h : cellsAt w A vs) : ∀ i, i < vs.length → w.cell? (A.add i) = vs.toArray[i]? := by
  intro i hi
  rw [h i vs[i] (List.getElem?_eq_getElem hi)]
  simp [hi]

/-! ### small calls -/
@[reducible] def dptr (d : Nat) : Value := .pointer (some ⟨d, 0, none⟩)
variable {w : World} {d : Nat} {k s : SV} {D : DK}
theorem disk_ready.spec (h : DkAt w d k s D) : CallT [.one (.int .i64)] Try.prog F.disk_Disk_ready [dptr d] w fun r w' => r = (if D.down = true then 40 else 0) ∧ w = w' := by
  refine disk_Disk_ready.vc (some ⟨d, 0, none⟩) w _ ?_
  refine cnd_neg rfl ⟨D.down, h.blk.get 2 rfl, cnd_intro (fun hd => ⟨by rw [hd]; rfl, rfl⟩) (fun hd => ⟨by rw [hd]; rfl, rfl⟩)⟩
theorem disk_has.spec (h : DkAt w d k s D) (n : Int) : CallT [.one .bool] Try.prog F.disk_Disk_has [dptr d, .int .i64 n] w fun r w' => r = decide (0 ≤ n ∧ n < D.kept.length) ∧ w = w' := by
  refine disk_Disk_has.vc (some ⟨d, 0, none⟩) n w _ ?_
  have hl := h.kept.len
  refine cnd_dec (fun h0 => ⟨k, h.blk.get 0 rfl, ?_, rfl⟩) (fun h0 => ⟨?_, rfl⟩)
  · rw [decide_eq_decide]; omega
  · rw [eq_comm, decide_eq_false_iff_not]; omega
theorem disk_hit.spec (h : DkAt w d k s D) : CallT [.one .bool] Try.prog F.disk_Disk_hit [dptr d] w fun r w' => r = (hitD D).2 ∧ DkTo w w' d k s s (hitD D).1 := by
  refine disk_Disk_hit.vc (some ⟨d, 0, none⟩) w _ ?_
  have ha := h.arm
  refine ⟨(D.armed : Int), h.blk.get 3 rfl, cnd_beq (fun h0 => ?_) (fun h0 => ?_)⟩
  · have : D.armed = 0 := by omega
    rw [hitD, if_pos this]; exact ⟨rfl, h.to⟩
  · have h1 : ¬ D.armed = 0 := by omega
    have hw : IntKind.i64.wrap ((D.armed : Int) - 1) = ((D.armed - 1 : Nat) : Int) := by rw [i64_id] <;> omega
    obtain ⟨a, b, c⟩ := h.put 3 (by omega) (.int .i64 ((D.armed - 1 : Nat) : Int)) { D with armed := D.armed - 1 } rfl rfl rfl (by simp only; omega)
    refine ⟨(D.armed : Int), h.blk.get 3 rfl, a, b, ?_⟩
    rw [hw]
    refine ⟨((D.armed - 1 : Nat) : Int), c.at_.blk.get 3 rfl, ?_, ?_⟩
    · rw [hitD, if_neg h1]
      by_cases h2 : D.armed - 1 = 0
      · rw [h2]; rfl
      · have e1 : ((((D.armed - 1 : Nat) : Int) == 0) : Bool) = false := by simp; omega
        rw [e1]; simp [h2]
    · rw [hitD, if_neg h1]; exact c
theorem disk_counted.spec (h : DkAt w d k s D) : CallT [.one (.int .i64)] Try.prog F.disk_Disk_counted [dptr d, .func (.func F.disk_Disk_hit) #[dptr d] #[]] w fun r w' => r = (cntD D).2 ∧ DkTo w w' d k s s (cntD D).1 := by
  refine disk_Disk_counted.vc (some ⟨d, 0, none⟩) (.func (.func F.disk_Disk_hit) #[dptr d] #[]) w _ ?_
  have hh : callVal [.one .bool] Try.prog (.func (.func F.disk_Disk_hit) #[dptr d] #[]) [] w (fun r w' => r = (hitD D).2 ∧ DkTo w w' d k s s (hitD D).1) := disk_hit.spec h
  refine callVal.mono hh ?_
  rintro _ w1 ⟨rfl, h1⟩
  refine cnd_not (fun hf => ?_) (fun ht => ?_)
  · rw [cntD, if_neg (by rw [hf]; simp)]; exact ⟨rfl, h1⟩
  · obtain ⟨a, b, c⟩ := h1.at_.put 2 (by omega) (.bool true) { (hitD D).1 with down := true } rfl rfl rfl h1.at_.arm
    rw [cntD, if_pos ht]
    exact ⟨a, b, rfl, h1.tr c⟩
theorem disk_Arm.spec (h : DkAt w d k s D) {n : Int} (hn : n ≤ 9223372036854775807) : CallT [.one (.int .i64)] Try.prog F.disk_Disk_Arm [dptr d, .int .i64 n] w fun r w' => r = (armD D n).2 ∧ DkTo w w' d k s s (armD D n).1 := by
  refine disk_Disk_Arm.vc (some ⟨d, 0, none⟩) n w _ ?_
  refine CallT.mono (disk_ready.spec h) ?_
  rintro _ _ ⟨rfl, rfl⟩
  by_cases hd : D.down = true
  · rw [if_pos hd, armD, if_pos hd]
    exact cnd_pos rfl ⟨rfl, h.to⟩
  · rw [if_neg hd, armD, if_neg hd]
    have hm : max n 0 = (((max n 0).toNat : Nat) : Int) := by omega
    obtain ⟨a, b, c⟩ := h.put 3 (by omega) (.int .i64 (((max n 0).toNat : Nat) : Int)) { D with armed := (max n 0).toNat } rfl rfl rfl (by simp only; omega)
    refine cnd_neg rfl ⟨a, b, ?_⟩
    rw [hm]
    exact ⟨rfl, c⟩
theorem disk_Start.spec (h : DkAt w d k s D) : CallT [.one (.int .i64)] Try.prog F.disk_Disk_Start [dptr d] w fun r w' => r = 0 ∧ ∃ s', DkTo w w' d k s s' (startD D) := by
  refine disk_Disk_Start.vc (some ⟨d, 0, none⟩) w _ ?_
  refine cnd_neg rfl ⟨D.down, h.blk.get 2 rfl, cnd_intro (fun hd => ?_) (fun hd => ?_)⟩
  · obtain ⟨a, b, c⟩ := h.putW (s' := ⟨none, 0, 0⟩) (l := []) (Upd.refl _ w) (OwnS.nil encWr_len (by decide) _ _ _) (fun b hb => by obtain ⟨A, hA, _⟩ := hb; simp at hA) (by simp)
    refine ⟨a, b, ?_⟩
    obtain ⟨a2, b2, c2⟩ := c.at_.put 3 (by omega) (.int .i64 ((0 : Nat) : Int)) { D with waits := [], armed := 0 } rfl rfl rfl (by simp)
    refine ⟨a2, b2, ?_⟩
    obtain ⟨a3, b3, c3⟩ := c2.at_.put 2 (by omega) (.bool false) { D with waits := [], armed := 0, down := false } rfl rfl rfl (by simp)
    exact ⟨a3, b3, rfl, _, by rw [startD, if_pos hd]; exact (c.tr c2).tr c3⟩
  · obtain ⟨a3, b3, c3⟩ := h.put 2 (by omega) (.bool false) D (by rw [← hd]; rfl) rfl rfl h.arm
    exact ⟨a3, b3, rfl, s, by rw [startD, if_neg (by rw [hd]; simp)]; exact c3⟩
theorem disk_Down.spec (h : DkAt w d k s D) : CallT [.one .bool] Try.prog F.disk_Disk_Down [dptr d] w fun r w' => r = D.down ∧ w = w' := by
  refine disk_Disk_Down.vc (some ⟨d, 0, none⟩) w _ ?_
  exact cnd_pos rfl ⟨D.down, h.blk.get 2 rfl, rfl, rfl⟩
theorem disk_Waiting.spec (h : DkAt w d k s D) : CallT [.one (.int .i64)] Try.prog F.disk_Disk_Waiting [dptr d] w fun r w' => r = D.waits.length ∧ w = w' := by
  refine disk_Disk_Waiting.vc (some ⟨d, 0, none⟩) w _ ?_
  exact cnd_neg rfl ⟨s, h.blk.get 1 rfl, by rw [h.wait.len], rfl⟩
theorem disk_Size.spec (h : DkAt w d k s D) : CallT [.one (.int .i64)] Try.prog F.disk_Disk_Size [dptr d] w fun r w' => r = D.kept.length ∧ w = w' := by
  refine disk_Disk_Size.vc (some ⟨d, 0, none⟩) w _ ?_
  exact cnd_neg rfl ⟨k, h.blk.get 0 rfl, by rw [h.kept.len], rfl⟩
theorem disk_Flips.spec (h : DkAt w d k s D) : CallT [.one (.int .i64)] Try.prog F.disk_Disk_Flips [dptr d] w fun r w' => r = D.flips ∧ w = w' := by
  refine disk_Disk_Flips.vc (some ⟨d, 0, none⟩) w _ ?_
  exact cnd_neg rfl ⟨(D.flips : Int), h.blk.get 4 rfl, rfl, rfl⟩
end Go.Proofs
