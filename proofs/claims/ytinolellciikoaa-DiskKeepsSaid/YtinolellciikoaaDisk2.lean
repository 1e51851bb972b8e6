/- disk: New, Write, Read, Flush. Conditions: those of each contract. -/
import Derived.Test.YtinolellciikoaaCond7
import Derived.Test.YtinolellciikoaaDisk
namespace Go.Proofs
open Go Go.Vc
def secOf (b : List UInt8) : Sec := if h : b.length = 512 then ⟨b, h⟩ else zeroSec
theorem secOf_val {b : List UInt8} (h : b.length = 512) : (secOf b).1 = b := by rw [secOf, dif_pos h]
def writeD (D : DK) (at_ : Int) (b : List UInt8) : DK × Int :=
  if D.down = true then (D, 40) else if ¬ (0 ≤ at_ ∧ at_ < D.kept.length) ∨ b.length ≠ 512 then (D, 1) else cntD { D with waits := D.waits ++ [(at_.toNat, secOf b)] }
/-- The last one that was written counts. -/
def lastW (ws : List Wr) (at_ : Nat) (x : Sec) : Sec := ws.foldl (fun acc p => if p.1 = at_ then p.2 else acc) x
def showD (D : DK) (at_ : Nat) : Sec := lastW D.waits at_ (D.kept.getD at_ zeroSec)
def readD (D : DK) (at_ : Int) : List UInt8 × Int :=
  if D.down = true then ([], 40) else if ¬ (0 ≤ at_ ∧ at_ < D.kept.length) then ([], 1) else ((showD D at_.toNat).1, 0)
def applyW (kept : List Sec) (ws : List Wr) : List Sec := ws.foldl (fun k p => k.set p.1 p.2) kept
theorem applyW_len : ∀ (ws : List Wr) (kept : List Sec), (applyW kept ws).length = kept.length
  | [], _ => rfl
  | p :: r, kept => by
    have := applyW_len r (kept.set p.1 p.2)
    rw [List.length_set] at this
    exact this
theorem applyW_snoc (kept : List Sec) (ws : List Wr) (p : Wr) : applyW kept (ws ++ [p]) = (applyW kept ws).set p.1 p.2 := by simp [applyW]
def flushD (D : DK) : DK × Int :=
  if D.down = true then (D, 40) else if (cntD D).2 ≠ 0 then cntD D else ({ (cntD D).1 with kept := applyW D.kept D.waits, waits := [] }, 0)
theorem cntD_kept (D : DK) : (cntD D).1.kept = D.kept ∧ (cntD D).1.waits = D.waits ∧ (cntD D).1.flips = D.flips := by
  unfold cntD hitD
  repeat' split
  all_goals exact ⟨rfl, rfl, rfl⟩

/-! ### New -/
def newD (n : Nat) : DK := ⟨List.replicate n zeroSec, [], false, 0, 0⟩
theorem reps_flat {α : Type} (enc : α → List Value) (x : α) : ∀ n, reps n (enc x) = (List.replicate n x).flatMap enc
  | 0 => rfl
  | n + 1 => by rw [reps, reps_flat enc x n, List.replicate_succ, List.flatMap_cons]
theorem z_content : zeroL Try.prog T.disk_content = some (encSec zeroSec) := by kernel_rfl
theorem z_write : zeroL Try.prog T.disk_write = some (encWr (0, zeroSec)) := by kernel_rfl
theorem u_content : Try.prog.underlying T.sl_disk_content = some (.slice T.disk_content) := by kernel_rfl
theorem u_write : Try.prog.underlying T.sl_disk_write = some (.slice T.disk_write) := by kernel_rfl
theorem disk_New.spec (n : Int) (w : World) : CallT [.one .ptr, .one (.int .i64)] Try.prog F.disk_New [.int .i64 n] w fun r w' =>
    Ext w w' ∧ ((n < 1 ∨ n > 65536) ∧ r = (none, 1) ∨ (1 ≤ n ∧ n ≤ 65536) ∧ ∃ d k s, r = (some ⟨d, 0, none⟩, 0) ∧ DkAt w' d k s (newD n.toNat) ∧ ∀ b, fp d k s b → w.heap.size ≤ b) := by
  refine disk_New.vc n w _ ?_
  refine cnd_dec (fun h => ⟨Upd.refl _ _, .inl ⟨.inl h, rfl⟩⟩) (fun h1 => cnd_dec (fun h => ⟨Upd.refl _ _, .inl ⟨.inr h, rfl⟩⟩) (fun h2 => ?_))
  refine mkSV_own (bt := 512) (sz := 512) u_content (by kernel_rfl) (by kernel_rfl) z_content (encSec_len _) (by omega) (by omega) (by omega) (by omega) ?_
  rw [reps_flat]
  have ho : OwnS encSec 512 T.disk_content (w.alloc (.cells ((List.replicate n.toNat zeroSec).flatMap encSec).toArray T.disk_content)) w.heap.size ⟨some ⟨w.heap.size, 0, none⟩, n.toNat, n.toNat⟩ (List.replicate n.toNat zeroSec) :=
    ⟨Own.new w T.disk_content 512 n.toNat _ (by rw [flat_len encSec_len, List.length_replicate]), encSec_len, by decide⟩
  generalize hw1 : w.alloc (.cells ((List.replicate n.toNat zeroSec).flatMap encSec).toArray T.disk_content) = w1 at ho ⊢
  have e1 : Ext w w1 := by rw [← hw1]; exact ext_alloc _ _
  have z1 : w1.heap.size = w.heap.size + 1 := by rw [← hw1]; simp
  refine ⟨e1.alloc _, .inr ⟨⟨by omega, by omega⟩, w1.heap.size, ⟨some ⟨w.heap.size, 0, none⟩, n.toNat, n.toNat⟩, ⟨none, 0, 0⟩, rfl, ?_, ?_⟩⟩
  · refine ⟨BK.new w1 T.disk_Disk _, ⟨(ho.ext (ext_alloc _ _)).own.mono (Nat.zero_le _), encSec_len, by decide⟩, OwnS.nil encWr_len (by decide) _ _ _, ?_, ?_, ?_, ?_, ?_, by simp [newD]⟩
    · rintro ⟨A, hA, hb⟩; obtain rfl := Option.some.inj hA; simp only at hb; omega
    · rintro ⟨A, hA, hb⟩; simp at hA
    · rintro b _ ⟨A, hA, hb⟩; simp at hA
    · simp [newD]
    · simp [newD]; omega
  · rintro b (rfl | ⟨A, hA, rfl⟩ | ⟨A, hA, _⟩)
    · omega
    · obtain rfl := Option.some.inj hA; exact Nat.le_refl _
    · simp at hA

/-! ### Write -/
theorem app_write : AppT Try.prog [T.sl_disk_write, T.sl_disk_write] T.disk_write 513 520 (encWr (0, zeroSec)) :=
  ⟨⟨T.sl_disk_write, rfl, u_write⟩, ⟨T.sl_disk_write, _, rfl, u_write, .inr ⟨T.disk_write, rfl⟩⟩, by kernel_rfl, by kernel_rfl, by decide, z_write, encWr_len _, encWr_one _⟩
theorem app_content : AppT Try.prog [T.sl_disk_content, T.sl_disk_content] T.disk_content 512 512 (encSec zeroSec) :=
  ⟨⟨T.sl_disk_content, rfl, u_content⟩, ⟨T.sl_disk_content, _, rfl, u_content, .inr ⟨T.disk_content, rfl⟩⟩, by kernel_rfl, by kernel_rfl, by decide, z_content, encSec_len _, encSec_one _⟩
theorem zc_write : zc Try.prog T.disk_write = encWr (0, zeroSec) := by rw [zc, z_write]
theorem write_splice {z : List Value} {x : Value} {l : List Value} (hz : z.length = 513) (hl : l.length = 512) : splL (splL z 0 [x]) 1 l = x :: l := by
  match z, hz with
  | y :: r, hz =>
    have hr : r.length = 512 := by simpa using hz
    simp only [splL, List.take_zero, List.nil_append, List.length_singleton, Nat.zero_add, List.drop_succ_cons, List.drop_zero, List.singleton_append, List.take_succ_cons, hl, show 1 + 512 = 512 + 1 by rfl]
    rw [List.drop_eq_nil_of_le (by omega)]; simp
theorem slot_splice {z l : List Value} (h : z.length = l.length) : splL (repz 1 z) (0 * 513) l = l := by
  have : repz 1 z = z := by simp [repz, reps]
  rw [this, Nat.zero_mul, splL, List.take_zero, List.nil_append, Nat.zero_add, List.drop_eq_nil_of_le (by omega), List.append_nil]
theorem encWr_inj' (at_ : Int) (h : 0 ≤ at_) (x : Sec) : (.int .i64 at_ :: B8 x.1 : List Value) = encWr (at_.toNat, x) := by
  rw [encWr]; congr 2; omega
set_option maxRecDepth 100000 in
theorem disk_Write.spec {w : World} {d : Nat} {k s : SV} {D : DK} (h : DkAt w d k s D) (hn : D.waits.length ≤ 1000000) {at_ : Int} {t : SV} {b : List UInt8} (ht : RdB w t b) (hd : ∀ c, c < w.heap.size → t.blk c → ¬ s.blk c) :
    CallT [.one (.int .i64)] Try.prog F.disk_Disk_Write [dptr d, .int .i64 at_, .slice t.a t.len t.cap] w fun r w' => r = (writeD D at_ b).2 ∧ ∃ s', DkTo w w' d k s s' (writeD D at_ b).1 := by
  refine disk_Disk_Write.vc (some ⟨d, 0, none⟩) at_ t w _ ?_
  have htl := ht.lenB
  refine CallT.mono (disk_ready.spec h) ?_
  rintro _ _ ⟨rfl, rfl⟩
  by_cases hdn : D.down = true
  · rw [if_pos hdn, writeD, if_pos hdn]
    exact cnd_pos rfl ⟨rfl, s, h.to⟩
  rw [if_neg hdn, writeD, if_neg hdn]
  refine cnd_neg rfl ⟨fun _ w' => w = w' ∧ (0 ≤ at_ ∧ at_ < D.kept.length) ∧ b.length = 512, CallT.mono (disk_has.spec h at_) ?_, ?_⟩
  · rintro _ _ ⟨rfl, rfl⟩
    refine cnd_not (fun hf => ?_) (fun htr => cnd_bne (fun hne => ?_) (fun he => ⟨rfl, by simpa using htr, by omega⟩))
    · rw [if_pos (.inl (by simpa using hf))]; exact ⟨rfl, s, h.to⟩
    · rw [if_pos (.inr (by omega))]; exact ⟨rfl, s, h.to⟩
  rintro _ _ _ ⟨rfl, hat, h512⟩
  rw [if_neg (by rintro (h | h); exact h hat; exact h h512)]
  have hcells : ∀ w', RdB w' t b → ∀ A, t.a = some A → ∀ i, i < 512 → w'.cell? (A.add i) = (B8 b).toArray[i]? := fun w' hw A hA i hi => bigAt (hw.at_ A hA) i (by rw [B8_length]; omega)
  have hta : ∃ A, t.a = some A := by
    cases hA : t.a with
    | none => have := ht.nil hA; omega
    | some A => exact ⟨A, rfl⟩
  obtain ⟨A, hA⟩ := hta
  have htb : A.block < w.heap.size := by
    have := ht.at_ A hA
    exact cellsAt_lt this (by intro he; rw [← List.length_eq_zero_iff, B8_length] at he; omega)
  have hz513 : (zc Try.prog T.disk_write).length = 513 := by rw [zc_write]; exact encWr_len _
  have hl512 : (B8 b).length = 512 := by rw [B8_length]; exact h512
  refine ⟨fun w' => BK w' d T.disk_Disk (dkVs k s D) ∧ RdB w' t b, ⟨h.blk, ht.drew⟩, s, fun _ hh => hh.1.get 1 rfl, by omega, ?_⟩
  rw [hA]
  have hspl : splL (splL (zc Try.prog T.disk_write) 0 [.int .i64 at_]) 1 (B8 b).toArray.toList = encWr (at_.toNat, secOf b) := by
    rw [write_splice hz513 (by simpa using hl512), ← encWr_inj' at_ hat.1, secOf_val h512]
  refine ⟨(B8 b).toArray, by simpa using hl512, fun w' hh i hi => hcells w' hh.2 A hA i hi, rfl, by rw [hz513]; omega, by simpa using hl512, ?_, ?_, ?_, ?_⟩
  · rw [splL]; simp only [List.take_zero, List.nil_append, List.length_append, List.length_singleton, List.length_drop, hz513]; omega
  · rw [hspl]; exact encWr_len _
  · simp [repz, reps, hz513]
  rw [hspl, slot_splice (by rw [hz513]; exact (encWr_len _).symm)]
  have d1 : DkAt w.drew d k s D := h.ext (ext_drew _)
  have hal := ext_alloc w.drew (.cells (encWr (at_.toNat, secOf b)).toArray T.disk_write)
  refine ⟨⟨d1.blk.ext hal, (ht.drew).ext hal⟩, ?_⟩
  have hwl := d1.wait.len
  have hd2 : DkAt (w.drew.alloc (.cells (encWr (at_.toNat, secOf b)).toArray T.disk_write)) d k s D := d1.ext hal
  have hsrc : Src Try.prog (w.drew.alloc (.cells (encWr (at_.toNat, secOf b)).toArray T.disk_write)) 513 (.slice (some ⟨w.drew.heap.size, 0, none⟩) 1 1) 1 (encWr (at_.toNat, secOf b)) :=
    (Own.new w.drew T.disk_write 513 1 (encWr (at_.toNat, secOf b)) (encWr_len _)).rd.src (encWr_one _)
  have hz : (w.drew.alloc (.cells (encWr (at_.toNat, secOf b)).toArray T.disk_write)).heap.size = w.heap.size + 1 := by simp
  refine appV_ownL app_write hd2.wait.own hsrc (Nat.zero_le _) (fun hlt => Nat.le_trans (Nat.mul_le_mul_right _ (nextcap_le hlt)) (by omega)) ?_
  generalize hw2 : w.drew.alloc (.cells (encWr (at_.toNat, secOf b)).toArray T.disk_write) = w2 at *
  intro s' w3 ho hlen u3 hnn hloc
  have e2 : Ext w w2 := (ext_drew w).tr hal
  have hloc' : ∀ c, s'.blk c → s.blk c ∨ w2.heap.size ≤ c := by
    rintro c ⟨A', hA', rfl⟩
    rcases hloc with hl | hl
    · exact .inl ⟨A', by rw [← hl]; exact hA', rfl⟩
    · rw [hl] at hA'; obtain rfl := Option.some.inj hA'; exact .inr (Nat.le_refl _)
  have ho' : OwnS encWr 513 T.disk_write w3 0 s' (D.waits ++ [(at_.toNat, secOf b)]) := ⟨by rw [List.flatMap_append]; simpa using ho, encWr_len, by decide⟩
  have ht3 : RdB w3 t b := (((ht.drew).ext hal).keep u3 fun c hc hb hs => by
    obtain ⟨A', hA', rfl⟩ := hb
    rw [hA] at hA'; obtain rfl := Option.some.inj hA'
    exact hd _ htb ⟨A, hA, rfl⟩ hs)
  refine ⟨⟨hd2.blk.upd u3 hd2.ds, ht3⟩, ?_⟩
  obtain ⟨g1, g2, g3⟩ := hd2.putW u3 ho' hloc' (fun p hp => by
    rcases List.mem_append.1 hp with hp | hp
    · exact h.rng p hp
    · rw [List.mem_singleton] at hp; subst hp; simp only; omega)
  refine ⟨g1, g2, CallT.mono (disk_counted.spec g3.at_) ?_⟩
  rintro _ w4 ⟨rfl, h4⟩
  exact ⟨rfl, s', DkTo.pre e2 (g3.tr h4)⟩

/-! ### Read -/
theorem lastW_take {ws : List Wr} {at_ i : Nat} {p : Wr} {x : Sec} (hp : ws[i]? = some p) (he : p.1 = at_) (hno : ∀ q ∈ ws.drop (i + 1), q.1 ≠ at_) : lastW ws at_ x = p.2 := by
  have hi := (List.getElem?_eq_some_iff.1 hp).1
  have h1 : ws = (ws.take i ++ [p]) ++ ws.drop (i + 1) := by
    obtain ⟨_, rfl⟩ := List.getElem?_eq_some_iff.1 hp
    rw [List.append_assoc, List.singleton_append, ← List.drop_eq_getElem_cons hi, List.take_append_drop]
  have h2 : ∀ (l : List Wr) (y : Sec), (∀ q ∈ l, q.1 ≠ at_) → lastW l at_ y = y := by
    intro l
    induction l with
    | nil => intro y _; rfl
    | cons q r ih =>
      intro y hq
      show lastW r at_ (if q.1 = at_ then q.2 else y) = y
      rw [if_neg (hq q (by simp))]
      exact ih y fun z hz => hq z (by simp [hz])
  conv => lhs; rw [h1]
  have h3 : lastW ((ws.take i ++ [p]) ++ ws.drop (i + 1)) at_ x = lastW (ws.drop (i + 1)) at_ (lastW (ws.take i ++ [p]) at_ x) := by simp only [lastW, List.foldl_append]
  rw [h3, h2 _ _ hno]
  simp [lastW, he]
theorem lastW_none {ws : List Wr} {at_ : Nat} {x : Sec} (hno : ∀ q ∈ ws, q.1 ≠ at_) : lastW ws at_ x = x := by
  induction ws generalizing x with
  | nil => rfl
  | cons q r ih =>
    show lastW r at_ (if q.1 = at_ then q.2 else x) = x
    rw [if_neg (hno q (by simp))]
    exact ih fun z hz => hno z (by simp [hz])
theorem subA_lo (a : Option Addr) (m : Nat) (hm : m ≠ 0) : subA a 0 1 m = a := by
  unfold subA; rw [if_neg hm]; cases a <;> rfl
theorem disk_Read.spec {w : World} {d : Nat} {k s : SV} {D : DK} (h : DkAt w d k s D) (hn : D.waits.length ≤ 2000000) (at_ : Int) :
    CallT [.one .slice, .one (.int .i64)] Try.prog F.disk_Disk_Read [dptr d, .int .i64 at_] w fun r w' => OwnB w' w.heap.size r.1 (readD D at_).1 ∧ r.2 = (readD D at_).2 ∧ Ext w w' := by
  refine disk_Disk_Read.vc (some ⟨d, 0, none⟩) at_ w _ ?_
  refine CallT.mono (disk_ready.spec h) ?_
  rintro _ _ ⟨rfl, rfl⟩
  by_cases hdn : D.down = true
  · rw [if_pos hdn, readD, if_pos hdn]
    exact cnd_pos rfl ⟨Own.nil _ _ _ _, rfl, Upd.refl _ _⟩
  rw [if_neg hdn, readD, if_neg hdn]
  refine cnd_neg rfl (CallT.mono (disk_has.spec h at_) ?_)
  rintro _ _ ⟨rfl, rfl⟩
  refine cnd_not (fun hf => ?_) (fun htr => ?_)
  · rw [if_pos (by simpa using hf)]; exact ⟨Own.nil _ _ _ _, rfl, Upd.refl _ _⟩
  have hat : 0 ≤ at_ ∧ at_ < D.kept.length := by simpa using htr
  rw [if_neg (by simpa using htr)]
  obtain ⟨i, rfl⟩ : ∃ i : Nat, at_ = i := ⟨at_.toNat, by omega⟩
  rw [Int.toNat_natCast]
  have hwl := h.wait.len
  have hw0 : IntKind.i64.wrap ((s.len : Int) - 1) = (s.len : Int) - 1 := by rw [i64_id] <;> omega
  -- a copy of a sector
  have copy : ∀ (P : Prop) (_ : P) (x : Sec) (A : Addr), cellsAt w A (B8 x.1) → CallT [.one .slice] Try.prog F.slices_Clone_byte_byte [.slice (subA (some A) 0 1 512) (512 - 0) (512 - 0)] w fun r w' => OwnB w' w.heap.size r x.1 ∧ P ∧ Ext w w' := by
    intro P hP x A hA
    rw [subA_lo _ _ (by decide)]
    have hr : RdB w ⟨some A, 512, 512⟩ x.1 := ⟨by rw [B8_length, x.2]; rfl, fun h => by simp at h, fun A' hA' => by obtain rfl := Option.some.inj hA'; exact hA⟩
    refine CallT.mono (slices_Clone_byte_byte.spec hr (by rw [x.2]; decide)) ?_
    rintro o w' ⟨ho, e, _⟩
    exact ⟨ho, hP, e⟩
  refine ⟨s, h.blk.get 1 rfl, ?_⟩
  rw [hw0]
  refine ⟨fun n x w' => w = w' ∧ ∃ j : Nat, x = (j : Int) - 1 ∧ j ≤ D.waits.length ∧ n = j ∧ ∀ q ∈ D.waits.drop j, q.1 ≠ i, ⟨_, rfl, D.waits.length, by omega, Nat.le_refl _, rfl, by simp⟩, ?_⟩
  rintro n _ _ _ ⟨rfl, j, rfl, hj, rfl, hno⟩
  refine cnd_dec (fun hge => ?_) (fun hlt => ?_)
  · obtain ⟨m, rfl⟩ : ∃ m, n = m + 1 := ⟨n - 1, by omega⟩
    have hml : m < D.waits.length := by omega
    have hx : D.waits[m]? = some D.waits[m] := List.getElem?_eq_getElem hml
    have hdr : D.waits.drop m = D.waits[m] :: D.waits.drop (m + 1) := List.drop_eq_getElem_cons hml
    generalize D.waits[m] = p at hx hdr
    have hm1 : (((m + 1 : Nat) : Int) - 1) = (m : Int) := by omega
    rw [hm1]
    simp only [Int.toNat_natCast]
    refine ⟨s, h.blk.get 1 rfl, by omega, by omega, h.wait.rd.get hml fun A hA => ⟨(p.1 : Int), h.wait.rd.fld hx hA (k := 0) rfl, cnd_beq (fun he => ?_) (fun hne => ?_)⟩⟩
    · refine ⟨s, h.blk.get 1 rfl, by omega, by omega, ?_⟩
      rw [hA]
      have hc : cellsAt w ((A.add (m * 513)).add 1) (B8 p.2.1) := (h.wait.rd.at_ hx hA).drop 1
      have hs : showD D i = p.2 := lastW_take hx (by omega) hno
      rw [hs]
      exact copy _ trivial p.2 _ hc
    · refine ⟨m, by omega, trivial, m, ?_, by omega, rfl, fun q hq => ?_⟩
      · rw [i64_id] <;> omega
      · rw [hdr] at hq
        rcases List.mem_cons.1 hq with rfl | hq
        · intro he; exact hne (by omega)
        · exact hno q hq
  · have hn0 : n = 0 := by omega
    subst hn0
    have hil : i < D.kept.length := by omega
    have hx : D.kept[i]? = some D.kept[i] := List.getElem?_eq_getElem hil
    have hs : showD D i = D.kept[i] := by
      rw [showD, lastW_none (by simpa using hno), List.getD_eq_getElem?_getD, hx]; rfl
    rw [hs]
    generalize D.kept[i] = x at hx
    have hkl := h.kept.len
    refine ⟨k, h.blk.get 0 rfl, by omega, by omega, h.kept.rd.get hil fun A hA => ?_⟩
    exact copy _ rfl x _ (h.kept.rd.at_ hx hA)
end Go.Proofs
