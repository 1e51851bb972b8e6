/- Texts that the claim leans on, one behind the other: each begins with a sentence of its own. Conditions: those that each names. -/
import Derived.Below
import Derived.ChangeOld
import Derived.Deep.Quiet
import Derived.KernelRfl
import Derived.Laws.Cells
import Derived.Laws.Entries
import Derived.Laws.Sem
import Derived.Laws.Strings
import Derived.Laws.World
import Derived.MapKept
import Derived.OpenShut
import Derived.Orders
import Derived.OrdersHeld
import Derived.ProofKit
import Derived.ShutString
import Derived.SizedLaws
import Derived.StillTail
import Derived.Tactics
import Derived.Test.YtinolellciikoaaProg
import Derived.Test.YtinolellciikoaaRows
import Derived.Test.YtinolellciikoaaPkDK72
/- disk: Flush, Crash, Flip, Fork. Conditions: those of each contract. -/
namespace Go.Proofs
open Go Go.Vc
theorem applyW_take {kept : List Sec} {ws : List Wr} {i : Nat} {p : Wr} (hp : ws[i]? = some p) : applyW kept (ws.take (i + 1)) = (applyW kept (ws.take i)).set p.1 p.2 := by
  rw [List.take_add_one, hp, Option.toList_some, applyW_snoc]
set_option maxRecDepth 100000 in
theorem disk_Flush.spec {w : World} {d : Nat} {k s : SV} {D : DK} (h : DkAt w d k s D) (hn : D.waits.length ≤ 2000000) :
    CallT [.one (.int .i64)] Try.prog F.disk_Disk_Flush [dptr d] w fun r w' => r = (flushD D).2 ∧ ∃ s', DkTo w w' d k s s' (flushD D).1 := by
  refine disk_Disk_Flush.vc (some ⟨d, 0, none⟩) w _ ?_
  refine CallT.mono (disk_ready.spec h) ?_
  rintro _ _ ⟨rfl, rfl⟩
  by_cases hdn : D.down = true
  · rw [if_pos hdn, flushD, if_pos hdn]
    exact cnd_pos rfl ⟨rfl, s, h.to⟩
  rw [if_neg hdn, flushD, if_neg hdn]
  refine cnd_neg rfl (CallT.mono (disk_counted.spec h) ?_)
  rintro _ w1 ⟨rfl, h1⟩
  refine cnd_bne (fun hne => ?_) (fun he => ?_)
  · rw [if_pos hne]; exact ⟨rfl, s, h1⟩
  rw [if_neg (by rw [he]; simp)]
  obtain ⟨ck, cw, cf⟩ := cntD_kept D
  generalize hD1 : (cntD D).1 = D1 at *
  have a1 := h1.at_
  have hsl := a1.wait.len
  refine ⟨s, a1.blk.get 1 rfl, fun n x w' => ∃ i : Nat, x = i ∧ i ≤ D.waits.length ∧ n = D.waits.length - i ∧ DkTo w1 w' d k s s { D1 with kept := applyW D.kept (D.waits.take i) }, ⟨_, 0, rfl, by omega, rfl, ?_⟩, ?_⟩
  · have : ({ D1 with kept := applyW D.kept (D.waits.take 0) } : DK) = D1 := by rw [List.take_zero, applyW, List.foldl_nil, ← ck]
    rw [this]; exact a1.to
  rintro n _ _ w2 ⟨i, rfl, hi, rfl, h2⟩
  have a2 := h2.at_
  rw [cw] at hsl
  refine cnd_dec (fun hlt => ?_) (fun hge => ?_)
  · have hil : i < D.waits.length := by omega
    have hx : D.waits[i]? = some D.waits[i] := List.getElem?_eq_getElem hil
    generalize D.waits[i] = p at hx
    have hx1 : D1.waits[i]? = some p := by rw [cw]; exact hx
    have hw : IntKind.i64.wrap ((i : Int) + 1) = ((i + 1 : Nat) : Int) := by rw [i64_id] <;> omega
    have hpr : p.1 < D.kept.length := h.rng p (List.mem_of_getElem? hx)
    refine ⟨by omega, by omega, a2.wait.rd.get (i := i) (by simp only [cw]; exact hil) fun A hA => ?_⟩
    rw [Int.toNat_natCast]
    refine ⟨(encWr p).toArray, by simpa using encWr_len p, fun j hj => bigAt (a2.wait.rd.at_ hx1 hA) j (by rw [encWr_len]; exact hj), ?_⟩
    generalize hc : w2.alloc _ = w3
    dsimp only
    generalize hd : setCells w3 _ 0 _ = w4
    obtain ⟨c4, b4, e4, z4⟩ := bk_mk (T := T.disk_write) (z := zc Try.prog T.disk_write) (vs := encWr p) hc hd (by rw [zc_write, encWr_len, encWr_len])
    have a4 : DkAt w4.drew d k s { D1 with kept := applyW D.kept (D.waits.take i) } := a2.ext e4.drew
    have b4d : BK w4.drew w2.heap.size T.disk_write (encWr p) := b4
    have hkl := a4.kept.len
    simp only [applyW_len] at hkl
    refine ⟨encWr_len p, encWr_oneV p, c4, ?_⟩
    refine ⟨k, a4.blk.get 0 rfl, (p.1 : Int), b4d.get 0 rfl, (B8 p.2.1).toArray, by simpa using encSec_len p.2, fun j hj => bigAt (b4d.all.drop 1) j (by rw [show (encWr p).drop 1 = B8 p.2.1 from rfl, B8_length, p.2.2]; exact hj), by omega, by omega, a4.kept.rd.get (i := p.1) (by simp only [applyW_len]; exact hpr) fun A' hA' => ?_⟩
    rw [Int.toNat_natCast]
    obtain ⟨cc, h5⟩ := a4.setk (i := p.1) (by simp only [applyW_len]; exact hpr) hA' p.2
    refine ⟨encSec_len p.2, B8_oneV _, cc, D.waits.length - (i + 1), by omega, i + 1, hw, by omega, rfl, ?_⟩
    rw [applyW_take hx]
    exact (h2.ext e4.drew).tr h5
  · have : i = D.waits.length := by omega
    subst this
    rw [List.take_length] at h2 a2
    obtain ⟨g1, g2, g3⟩ := a2.putW (s' := ⟨none, 0, 0⟩) (l := []) (Upd.refl _ w2) (OwnS.nil encWr_len (by decide) _ _ _) (fun b hb => by obtain ⟨A, hA, _⟩ := hb; simp at hA) (by simp)
    exact ⟨g1, g2, rfl, _, (h1.tr h2).tr g3⟩

/-! ### Crash -/
def keepW : List Wr → List Bool → List Wr
  | [], _ => []
  | _ :: _, [] => []
  | p :: r, b :: bs => if b = true then p :: keepW r bs else keepW r bs
theorem keepW_take : ∀ {ws : List Wr} {keep : List Bool} {i : Nat} {p : Wr}, ws[i]? = some p → keepW (ws.take (i + 1)) keep = keepW (ws.take i) keep ++ (if keep.getD i false = true then [p] else [])
  | [], keep, i, p, h => by simp at h
  | q :: r, [], i, p, h => by cases i <;> simp [keepW]
  | q :: r, b :: bs, 0, p, h => by
    obtain rfl := Option.some.inj h
    cases b <;> simp [keepW]
  | q :: r, b :: bs, i + 1, p, h => by
    have ih := keepW_take (ws := r) (keep := bs) (i := i) (p := p) (by simpa using h)
    simp only [List.take_succ_cons, keepW, List.getD_cons_succ]
    rw [ih]
    split <;> simp
def crashD (D : DK) (keep : List Bool) : DK := { D with down := true, kept := applyW D.kept (keepW D.waits keep), waits := [] }
abbrev RdBo (w : World) (s : SV) (l : List Bool) : Prop := RdS (fun b : Bool => [Value.bool b]) 1 w s l
set_option maxRecDepth 100000 in
theorem disk_Crash.spec {w : World} {d : Nat} {k s : SV} {D : DK} (h : DkAt w d k s D) (hn : D.waits.length ≤ 2000000) {t : SV} {keep : List Bool} (ht : ∀ w', Upd (fp d k s) w w' → RdBo w' t keep) :
    CallT [.one (.int .i64)] Try.prog F.disk_Disk_Crash [dptr d, .slice t.a t.len t.cap] w fun r w' => r = 0 ∧ ∃ s', DkTo w w' d k s s' (crashD D keep) := by
  refine disk_Disk_Crash.vc (some ⟨d, 0, none⟩) t w _ ?_
  have htl := (ht w (Upd.refl _ _)).len
  obtain ⟨g1, g2, h1⟩ := h.put 2 (by omega) (.bool true) { D with down := true } rfl rfl rfl h.arm
  refine cnd_neg rfl ⟨g1, g2, ?_⟩
  dsimp only
  generalize w.setCell (Addr.add ⟨d, 0, none⟩ 2) (.bool true) = w1 at h1 ⊢
  have a1 := h1.at_
  have hsl := a1.wait.len
  simp only at hsl
  refine ⟨s, a1.blk.get 1 rfl, fun n x w' => ∃ i : Nat, x = i ∧ i ≤ D.waits.length ∧ n = D.waits.length - i ∧ DkTo w w' d k s s { D with down := true, kept := applyW D.kept (keepW (D.waits.take i) keep) }, ⟨_, 0, rfl, by omega, rfl, h1⟩, ?_⟩
  rintro n _ _ w2 ⟨i, rfl, hi, rfl, h2⟩
  have a2 := h2.at_
  refine cnd_dec (fun hlt => ?_) (fun hge => ?_)
  · have hil : i < D.waits.length := by omega
    have hx : D.waits[i]? = some D.waits[i] := List.getElem?_eq_getElem hil
    generalize D.waits[i] = p at hx
    have hw : IntKind.i64.wrap ((i : Int) + 1) = ((i + 1 : Nat) : Int) := by rw [i64_id] <;> omega
    have hpr : p.1 < D.kept.length := h.rng p (List.mem_of_getElem? hx)
    refine ⟨by omega, by omega, a2.wait.rd.get (i := i) hil fun A hA => ?_⟩
    rw [Int.toNat_natCast]
    refine ⟨(encWr p).toArray, by simpa using encWr_len p, fun j hj => bigAt (a2.wait.rd.at_ hx hA) j (by rw [encWr_len]; exact hj), ?_⟩
    generalize hc : w2.alloc _ = w3
    dsimp only
    generalize hd : setCells w3 _ 0 _ = w4
    obtain ⟨c4, b4, e4, z4⟩ := bk_mk (T := T.disk_write) (z := zc Try.prog T.disk_write) (vs := encWr p) hc hd (by rw [zc_write, encWr_len, encWr_len])
    have h4 := h2.ext e4
    have ht4 : RdBo w4 t keep := ht w4 h4.u
    refine ⟨encWr_len p, encWr_oneV p, c4, fun x w' => w4 = w' ∧ x = keep.getD i false, ?_, ?_⟩
    · refine cnd_dec (fun hlt2 => ?_) (fun hge2 => ⟨rfl, ?_⟩)
      · have hik : i < keep.length := by omega
        have hy : keep[i]? = some keep[i] := List.getElem?_eq_getElem hik
        refine ⟨by omega, by omega, ht4.get hik fun A' hA' => ⟨keep[i], ?_, rfl, ?_⟩⟩
        · exact (ht4.at_ hy hA') 0 _ rfl
        · rw [List.getD_eq_getElem?_getD, hy]; rfl
      · rw [List.getD_eq_getElem?_getD, List.getElem?_eq_none (by omega)]; rfl
    · rintro _ _ _ ⟨rfl, rfl⟩
      have b4d : BK w4.drew w2.heap.size T.disk_write (encWr p) := b4
      have hD : ∀ b, keep.getD i false = b → applyW D.kept (keepW (D.waits.take (i + 1)) keep) = if b = true then (applyW D.kept (keepW (D.waits.take i) keep)).set p.1 p.2 else applyW D.kept (keepW (D.waits.take i) keep) := by
        intro b hb
        rw [keepW_take hx, hb]
        cases b
        · simp
        · simp [applyW_snoc]
      refine cnd_intro (fun htr => ?_) (fun hfa => ?_)
      · have a4 : DkAt w4.drew d k s { D with down := true, kept := applyW D.kept (keepW (D.waits.take i) keep) } := h4.at_.ext (ext_drew _)
        have hkl := a4.kept.len
        simp only [applyW_len] at hkl
        refine ⟨k, a4.blk.get 0 rfl, (p.1 : Int), b4d.get 0 rfl, (B8 p.2.1).toArray, by simpa using encSec_len p.2, fun j hj => bigAt (b4d.all.drop 1) j (by rw [show (encWr p).drop 1 = B8 p.2.1 from rfl, B8_length, p.2.2]; exact hj), by omega, by omega, a4.kept.rd.get (i := p.1) (by simp only [applyW_len]; exact hpr) fun A' hA' => ?_⟩
        rw [Int.toNat_natCast]
        obtain ⟨cc, h5⟩ := a4.setk (i := p.1) (by simp only [applyW_len]; exact hpr) hA' p.2
        refine ⟨encSec_len p.2, B8_oneV _, cc, D.waits.length - (i + 1), by omega, i + 1, hw, by omega, rfl, ?_⟩
        rw [hD true htr, if_pos rfl]
        exact (h4.ext (ext_drew _)).tr h5
      · refine ⟨D.waits.length - (i + 1), by omega, i + 1, hw, by omega, rfl, ?_⟩
        rw [hD false hfa, if_neg (by simp)]
        exact h4
  · have : i = D.waits.length := by omega
    subst this
    rw [List.take_length] at h2 a2
    obtain ⟨g1, g2, g3⟩ := a2.putW (s' := ⟨none, 0, 0⟩) (l := []) (Upd.refl _ w2) (OwnS.nil encWr_len (by decide) _ _ _) (fun b hb => by obtain ⟨A, hA, _⟩ := hb; simp at hA) (by simp)
    exact ⟨g1, g2, rfl, _, h2.tr g3⟩

/-! ### Flip -/
def bitB (bit : Nat) : UInt8 := UInt8.ofNat (2 ^ (bit % 8))
def flipS (x : Sec) (bit : Nat) : Sec := ⟨x.1.set (bit / 8) (x.1.getD (bit / 8) 0 ^^^ bitB bit), by rw [List.length_set]; exact x.2⟩
def flipD (D : DK) (at_ bit : Int) : DK × Int :=
  if ¬ (0 ≤ at_ ∧ at_ < D.kept.length) ∨ bit < 0 ∨ 4096 ≤ bit then (D, 1) else ({ D with kept := D.kept.set at_.toNat (flipS (D.kept.getD at_.toNat zeroSec) bit.toNat), flips := D.flips + 1 }, 0)
theorem bit_xor {c : UInt8} {m : Nat} (hm : m < 8) : bxor .u8 (c.toNat : Int) (shl .u8 1 (m : Int)) = ((c ^^^ UInt8.ofNat (2 ^ m)).toNat : Int) := by
  have hlt : 2 ^ m < 256 := by
    have : 2 ^ m < 2 ^ 8 := Nat.pow_lt_pow_right (by decide) hm
    omega
  have h1 : shl .u8 1 (m : Int) = ((2 ^ m : Nat) : Int) := by
    have := shl_nat (k := .u8) (a := 1) (b := m) rfl (by simp only [IntKind.bits]; omega)
    rw [Nat.one_mul, Nat.mod_eq_of_lt (by simpa [IntKind.bits] using hlt)] at this
    exact this
  have h2 : (UInt8.ofNat (2 ^ m)).toNat = 2 ^ m := by simp; omega
  rw [h1]
  have := bxor_nat (k := .u8) rfl (a := c.toNat) (b := 2 ^ m) c.toNat_lt (by simpa [IntKind.bits] using hlt)
  rw [UInt8.toNat_xor, h2]; exact this
set_option maxRecDepth 100000 in
theorem disk_Flip.spec {w : World} {d : Nat} {k s : SV} {D : DK} (h : DkAt w d k s D) (hf : D.flips ≤ 1000000) (at_ bit : Int) :
    CallT [.one (.int .i64)] Try.prog F.disk_Disk_Flip [dptr d, .int .i64 at_, .int .i64 bit] w fun r w' => r = (flipD D at_ bit).2 ∧ DkTo w w' d k s s (flipD D at_ bit).1 := by
  refine disk_Disk_Flip.vc (some ⟨d, 0, none⟩) at_ bit w _ ?_
  refine cnd_neg rfl ⟨fun _ w' => w = w' ∧ (0 ≤ at_ ∧ at_ < D.kept.length) ∧ 0 ≤ bit ∧ bit < 4096, CallT.mono (disk_has.spec h at_) ?_, ?_⟩
  · rintro _ _ ⟨rfl, rfl⟩
    have bad : (¬ (0 ≤ at_ ∧ at_ < D.kept.length) ∨ bit < 0 ∨ 4096 ≤ bit) → (1 : Int) = (flipD D at_ bit).2 ∧ DkTo w w d k s s (flipD D at_ bit).1 := fun hb => by
      rw [flipD, if_pos hb]; exact ⟨rfl, h.to⟩
    exact cnd_not (fun hff => bad (.inl (by simpa using hff))) (fun htr => cnd_dec (fun h0 => bad (.inr (.inl h0))) (fun h0 => cnd_dec (fun h1 => bad (.inr (.inr (by omega)))) (fun h1 => ⟨rfl, by simpa using htr, by omega, by omega⟩)))
  rintro _ _ _ ⟨rfl, hat, hb0, hb1⟩
  obtain ⟨i, rfl⟩ : ∃ i : Nat, at_ = i := ⟨at_.toNat, by omega⟩
  obtain ⟨b, rfl⟩ : ∃ b : Nat, bit = b := ⟨bit.toNat, by omega⟩
  rw [flipD, if_neg (by omega)]
  have hil : i < D.kept.length := by omega
  have hd : DkAt w.drew d k s D := h.ext (ext_drew _)
  have hkl := hd.kept.len
  have hx : D.kept[i]? = some D.kept[i] := List.getElem?_eq_getElem hil
  have hgd : D.kept.getD i zeroSec = D.kept[i] := by rw [List.getD_eq_getElem?_getD, hx]; rfl
  generalize D.kept[i] = x at hx hgd
  have hq : IntKind.i64.wrap ((b : Int).tdiv 8) = ((b / 8 : Nat) : Int) := by
    rw [Int.tdiv_eq_ediv_of_nonneg (by omega), i64_id (by omega) (by omega)]; omega
  have hm : (b : Int).tmod 8 = ((b % 8 : Nat) : Int) := by rw [Int.tmod_eq_emod_of_nonneg (by omega)]; omega
  rw [hq, hm]
  simp only [Int.toNat_natCast, Nat.mul_one]
  rw [hgd]
  have h8 : b / 8 < x.1.length := by rw [x.2]; omega
  have hcell : (encSec x)[b / 8]? = some (.int .u8 ((x.1.getD (b / 8) 0).toNat : Int)) := by
    simp only [encSec, B8, List.getElem?_map, List.getElem?_eq_getElem h8, Option.map_some, List.getD_eq_getElem?_getD, Option.getD_some]
  refine ⟨k, hd.blk.get 0 rfl, by omega, by omega, hd.kept.rd.get hil fun A hA => ⟨by omega, by omega, ((x.1.getD (b / 8) 0).toNat : Int), hd.kept.rd.fld hx hA hcell, by omega, by omega, by omega, ?_⟩⟩
  rw [hA, bit_xor (by omega)]
  obtain ⟨c1, c2, c3, c4, c5⟩ := hd.kept.setf hx hA (k := b / 8) (by omega) (v := .int .u8 ((x.1.getD (b / 8) 0 ^^^ UInt8.ofNat (2 ^ (b % 8))).toNat : Int)) (y := flipS x b) (by
    simp only [encSec, flipS, B8, List.map_set]; rfl)
  refine ⟨by omega, by omega, c1, c2, ?_⟩
  generalize w.drew.setCell ((A.add (i * 512)).add (b / 8)) (.int .u8 ((x.1.getD (b / 8) 0 ^^^ UInt8.ofNat (2 ^ (b % 8))).toNat : Int)) = w2 at c3 c4 c5 ⊢
  have a2 : DkAt w2 d k s { D with kept := D.kept.set i (flipS x b) } :=
    ⟨hd.blk.upd c5 hd.dk, c3, ⟨hd.wait.own.upd c5 fun b hb hk => hd.ks b hk hb, hd.wait.esz, hd.wait.pos⟩, hd.dk, hd.ds, hd.ks, by simp only [List.length_set]; exact hd.rng, by simp only [List.length_set]; exact hd.num, hd.arm⟩
  have t2 : DkTo w w2 d k s s { D with kept := D.kept.set i (flipS x b) } := DkTo.pre (ext_drew w) ⟨a2, c5.mono fun x _ hx => .inr (.inl hx), fun _ hb => .inl hb⟩
  obtain ⟨g1, g2, g3⟩ := a2.put 4 (by omega) (.int .i64 ((D.flips + 1 : Nat) : Int)) { D with kept := D.kept.set i (flipS x b), flips := D.flips + 1 } rfl rfl rfl a2.arm
  have hw : IntKind.i64.wrap ((D.flips : Int) + 1) = ((D.flips + 1 : Nat) : Int) := by rw [i64_id] <;> omega
  refine ⟨(D.flips : Int), a2.blk.get 4 rfl, g1, g2, trivial, ?_⟩
  rw [hw]
  exact t2.tr g3

/-! ### Fork -/
end Go.Proofs
/- Slices of texts: what reads as so many texts. Conditions: those that each lemma names. -/
namespace Go.Proofs
open Go Go.Vc
@[reducible] def encSV (s : SV) : List Value := [.slice s.a s.len s.cap]
@[reducible] def encTx (p : SV × List UInt8) : List Value := encSV p.1
/-- A slice that reads as these texts. -/
def RdL (w : World) (s : SV) (l : List (List UInt8)) : Prop := ∃ ps : List (SV × List UInt8), RdS encTx 1 w s ps ∧ ps.map Prod.snd = l ∧ ∀ p ∈ ps, RdB w p.1 p.2
theorem RdL.len {w : World} {s : SV} {l : List (List UInt8)} (h : RdL w s l) : s.len = l.length := by
  obtain ⟨ps, h1, rfl, _⟩ := h
  rw [h1.len, List.length_map]
theorem RdL.ext {w w' : World} {s : SV} {l : List (List UInt8)} (h : RdL w s l) (hu : Ext w w') : RdL w' s l := by
  obtain ⟨ps, h1, h2, h3⟩ := h
  exact ⟨ps, h1.ext hu, h2, fun p hp => (h3 p hp).ext hu⟩
/-- An element of it. -/
theorem RdL.at_ {w : World} {s : SV} {l : List (List UInt8)} (h : RdL w s l) {i : Nat} {x : List UInt8} (hx : l[i]? = some x) {K : Addr → Prop}
    (hk : ∀ A t, s.a = some A → w.cell? (A.add (i * 1)) = some (.slice t.a t.len t.cap) → RdB w t x → K A) : onP s.a K := by
  obtain ⟨ps, h1, rfl, h3⟩ := h
  rw [List.getElem?_map] at hx
  cases hp : ps[i]? with
  | none => rw [hp] at hx; simp at hx
  | some p =>
    rw [hp] at hx
    obtain rfl := Option.some.inj hx
    refine h1.get (i := i) (List.getElem?_eq_some_iff.1 hp).1 fun A hA => hk A p.1 hA ?_ (h3 p (List.mem_of_getElem? hp))
    exact h1.fld hp hA (k := 0) rfl
theorem B8_flat (l : List UInt8) : (l.flatMap fun b => [Value.int .u8 b.toNat]) = B8 l := by
  induction l with
  | nil => rfl
  | cons x r ih => rw [List.flatMap_cons, ih]; rfl
end Go.Proofs
/- dunnagelaw04.full, awake; calls on a nil disk; the walk of DiskNil. Conditions: those of each contract. -/
namespace Go.Proofs
open Go Go.Vc
@[reducible] def encB (b : UInt8) : List Value := [.int .u8 b.toNat]
theorem _root_.Go.Vc.OwnS.bytes {w : World} {B : Nat} {s : SV} {l : List UInt8} (h : OwnS encB 1 T.uint8 w B s l) : OwnB w B s l := by
  have := h.own
  rwa [show l.flatMap encB = B8 l from B8_flat l] at this
theorem ownB_cells {w : World} {B : Nat} {s : SV} {l : List UInt8} (h : OwnB w B s l) : OwnS encB 1 T.uint8 w B s l :=
  ⟨by rw [show l.flatMap encB = B8 l from B8_flat l]; exact h, fun _ => rfl, by decide⟩
theorem own_prefix {w : World} {B : Nat} {T : TypeId} {sz i : Nat} {s : SV} {xs ys : List Value} (h : Own w B T sz s (xs ++ ys)) (ha : xs.length = i * sz) (hi : i ≤ s.len) : Own w B T sz ⟨s.a, i, s.cap⟩ xs := by
  rcases h.is with ⟨h1, h2, h3⟩ | ⟨b, rest, hs, hB, hb, hcap, hle⟩
  · exact ⟨ha, .inl ⟨h1, by simp only; omega, h3⟩⟩
  · exact ⟨ha,   .inr ⟨b, ys ++ rest, hs, hB, by rw [← List.append_assoc]; exact hb, by rw [← List.append_assoc]; exact hcap, by simp only; omega⟩⟩
def fullL (v : Int) : List UInt8 := (List.range 512).map fun (i : Nat) => UInt8.ofNat ((v + (i : Int)) % 256).toNat
def fullB (v : Int) (short : Bool) : List UInt8 := if short = true then (fullL v).take 511 else fullL v
theorem fullL_len (v : Int) : (fullL v).length = 512 := by rw [fullL, List.length_map, List.length_range]
theorem fullB_len (v : Int) : (fullB v false).length = 512 := fullL_len v
set_option maxRecDepth 100000 in
theorem full04.spec (v : Int) (short : Bool) (w : World) : CallT [.one .slice] Try.prog F.dunnagelaw04_full [.int .u8 v, .bool short] w fun o w' => OwnB w' w.heap.size o (fullB v short) ∧ Ext w w' := by
  refine dunnagelaw04_full.vc v short w _ ?_
  refine mkSV_own (bt := 1) (sz := 1) sl_u8 (by kernel_rfl) (by kernel_rfl) u8_z rfl (by omega) (by omega) (by omega) (by omega) ?_
  have hrep : reps (Int.toNat 512) [Value.int .u8 0] = (List.replicate 512 (0 : UInt8)).flatMap encB := reps_flat encB 0 512
  rw [hrep]
  have h0 : OwnS encB 1 T.uint8 (w.alloc (.cells ((List.replicate 512 (0 : UInt8)).flatMap encB).toArray T.uint8)) w.heap.size ⟨some ⟨w.heap.size, 0, none⟩, 512, 512⟩ (List.replicate 512 0) :=
    ⟨Own.new w T.uint8 1 512 _ (by rw [flat_len (enc := encB) (fun _ => rfl), List.length_replicate]), fun _ => rfl, by decide⟩
  have e0 := ext_alloc w (.cells ((List.replicate 512 (0 : UInt8)).flatMap encB).toArray T.uint8)
  change ∃ I : Nat → Int → World → Prop, _
  generalize w.alloc (.cells ((List.replicate 512 (0 : UInt8)).flatMap encB).toArray T.uint8) = w1 at h0 e0 ⊢
  have ht : ∀ i, i < 512 → (fullL v).take (i + 1) = (fullL v).take i ++ [UInt8.ofNat ((v + (i : Int)) % 256).toNat] := fun i hi => by
    rw [List.take_add_one]
    congr 1
    simp [fullL, hi]
  refine ⟨fun n x w' => ∃ i : Nat, x = i ∧ i ≤ 512 ∧ n = 512 - i ∧ Ext w w' ∧ OwnS encB 1 T.uint8 w' w.heap.size ⟨some ⟨w.heap.size, 0, none⟩, 512, 512⟩ ((fullL v).take i ++ List.replicate (512 - i) 0), ⟨_, 0, rfl, by omega, rfl, e0, h0⟩, ?_⟩
  rintro n _ _ w2 ⟨i, rfl, hi, rfl, e2, h2⟩
  have htl : ((fullL v).take i).length = i := by rw [List.length_take, fullL_len]; omega
  refine cnd_dec (fun hlt => ?_) (fun hge => ?_)
  · have hil : i < 512 := by have : (i : Int) < 512 := hlt; omega
    have hw : IntKind.i64.wrap ((i : Int) + 1) = ((i + 1 : Nat) : Int) := by rw [i64_id] <;> omega
    have hwv : IntKind.u8.wrap (v + IntKind.u8.wrap (i : Int)) = ((UInt8.ofNat ((v + (i : Int)) % 256).toNat).toNat : Int) := by
      rw [u8_mod, u8_mod]
      have : (UInt8.ofNat ((v + (i : Int)) % 256).toNat).toNat = ((v + (i : Int)) % 256).toNat := by simp; omega
      rw [this]; omega
    have hrep : List.replicate (512 - i) (0 : UInt8) = 0 :: List.replicate (512 - (i + 1)) 0 := by rw [← List.replicate_succ]; congr 1; omega
    have hx : ((fullL v).take i ++ List.replicate (512 - i) 0)[i]? = some 0 := by
      rw [List.getElem?_append_right (by omega), htl, Nat.sub_self, hrep]; rfl
    obtain ⟨c1, c2, c3, c4, c5⟩ := h2.setf (A := ⟨w.heap.size, 0, none⟩) hx rfl (k := 0) (by decide) (v := .int .u8 ((UInt8.ofNat ((v + (i : Int)) % 256).toNat).toNat : Int)) (y := UInt8.ofNat ((v + (i : Int)) % 256).toNat) rfl
    refine ⟨by omega, hlt, ?_⟩
    rw [hwv, Int.toNat_natCast]
    refine ⟨c1, c2, 512 - (i + 1), by omega, i + 1, hw, by omega, rfl, e2.newS (fun b hb => h2.own.blk_ge hb) c5, ?_⟩
    have : ((fullL v).take i ++ List.replicate (512 - i) 0).set i (UInt8.ofNat ((v + (i : Int)) % 256).toNat) = (fullL v).take (i + 1) ++ List.replicate (512 - (i + 1)) 0 := by
      rw [List.set_append_right _ _ (by omega), htl, Nat.sub_self, hrep, ht i hil]; simp
    rw [← this]
    exact c3
  · have : i = 512 := by
      have : ¬ ((i : Int) < 512) := hge
      omega
    subst this
    rw [List.take_of_length_le (by rw [fullL_len]; exact Nat.le_refl _), Nat.sub_self, List.replicate_zero, List.append_nil] at h2
    refine cnd_intro (fun hs => ?_) (fun hs => ?_)
    · subst hs
      have hw : IntKind.i64.wrap (((512 : Nat) : Int) - 1) = 511 := by rw [i64_id] <;> omega
      change 0 ≤ IntKind.i64.wrap (((512 : Nat) : Int) - 1) ∧ IntKind.i64.wrap (((512 : Nat) : Int) - 1) ≤ ((512 : Nat) : Int) ∧ _
      rw [hw]
      refine ⟨by omega, by omega, ?_, e2⟩
      rw [subA_zero]
      have h3 := h2.bytes
      have hsp : fullL v = (fullL v).take 511 ++ (fullL v).drop 511 := (List.take_append_drop _ _).symm
      rw [OwnB, hsp, show B8 ((fullL v).take 511 ++ (fullL v).drop 511) = B8 ((fullL v).take 511) ++ B8 ((fullL v).drop 511) from List.map_append] at h3
      have := own_prefix (i := 511) h3 (by rw [B8_length, List.length_take, fullL_len]; rfl) (by show 511 ≤ 512; omega)
      rw [fullB, if_pos rfl]
      exact this
    · rw [fullB, if_neg (by rw [hs]; simp)]
      exact ⟨h2.bytes, e2⟩

/-! ### awake -/
theorem cntD_zero {D : DK} (h : D.armed = 0) : cntD D = (D, 0) := by
  unfold cntD hitD; rw [if_pos h]; rfl
theorem writeD_in {D : DK} {at_ : Int} {b : List UInt8} (hd : D.down = false) (h0 : 0 ≤ at_) (h1 : at_ < D.kept.length) (hb : b.length = 512) : writeD D at_ b = cntD { D with waits := D.waits ++ [(at_.toNat, secOf b)] } := by
  rw [writeD, if_neg (by rw [hd]; simp), if_neg (by rintro (h | h); exact h ⟨h0, h1⟩; exact h hb)]
theorem fullL_head (v : Int) : (fullL v)[0]? = some (UInt8.ofNat (v % 256).toNat) := by simp [fullL]
set_option maxRecDepth 100000 in
theorem dunnagelaw04_awake.spec (w : World) : CallT [.one .bool] Try.prog F.dunnagelaw04_awake [] w fun r w' => r = true ∧ Ext w w' := by
  refine dunnagelaw04_awake.vc w _ ?_
  refine CallT.mono (disk_New.spec 2 w) ?_
  rintro r w1 ⟨e1, h | ⟨_, d, k, s, rfl, h1, hf⟩⟩
  · omega
  have hD : newD (Int.toNat 2) = newD 2 := rfl
  rw [hD] at h1
  refine ⟨fun _ w' => ∃ s', DkTo w1 w' d k s s' (writeD (newD 2) 1 (fullB 7 false)).1, cnd_neg rfl (cnd_neg rfl (CallT.mono (full04.spec 7 false w1) ?_)), ?_⟩
  · rintro o w2 ⟨ho, e2⟩
    refine CallT.mono (disk_Write.spec (h1.ext e2) (by simp [newD]) (at_ := 1) ho.rd fun c _ hc hs => ?_) ?_
    · have := ho.blk_ge hc; have := h1.wait.own.blk_lt hs; omega
    rintro _ w3 ⟨rfl, s', h3⟩
    rw [writeD_in rfl (by omega) (by simp [newD]) (fullB_len 7), cntD_zero rfl]
    refine cnd_neg rfl ⟨s', ?_⟩
    have := h3
    rw [writeD_in rfl (by omega) (by simp [newD]) (fullB_len 7), cntD_zero rfl] at this
    exact DkTo.pre e2 this
  · rintro _ _ w3 ⟨s', h3⟩
    rw [writeD_in rfl (by omega) (by simp [newD]) (fullB_len 7), cntD_zero rfl] at h3
    refine CallT.mono (disk_Read.spec h3.at_ (by simp [newD]) 1) ?_
    rintro ⟨o, e⟩ w4 ⟨h4, he, e4⟩
    have hr : readD { newD 2 with waits := (newD 2).waits ++ [(Int.toNat 1, secOf (fullB 7 false))] } 1 = (fullB 7 false, 0) := by
      rw [readD, if_neg (by simp [newD]), if_neg (by simp [newD])]
      refine Prod.ext ?_ rfl
      simp only
      have : showD { newD 2 with waits := (newD 2).waits ++ [(Int.toNat 1, secOf (fullB 7 false))] } (Int.toNat 1) = secOf (fullB 7 false) := by
        simp [showD, lastW, newD]
      rw [this, secOf_val (fullB_len 7)]
    rw [hr] at h4 he
    dsimp only at h4 he ⊢
    subst he
    have hl := h4.lenB
    rw [fullB_len] at hl
    have h0 : (fullB 7 false)[0]? = some 7 := by rw [show fullB 7 false = fullL 7 from rfl, fullL_head]; rfl
    refine cnd_pos rfl (cnd_pos (by rw [hl]; rfl) ⟨by omega, by rw [hl]; decide, SV.getB h4.rd (i := 0) (by rw [fullB_len]; decide) fun A hA => ⟨7, h4.rd.cellB (i := 0) (b := 7) h0 hA, cnd_pos rfl (CallT.mono (disk_Waiting.spec (h3.at_.ext e4)) ?_)⟩⟩)
    rintro _ _ ⟨rfl, rfl⟩
    exact ⟨by simp [newD], (h3.ext_of e1 hf).tr e4⟩

/-! ### a nil disk -/
end Go.Proofs
/- dunnagelaw04.DiskArmed: an armed disk is hit by the n-th write or flush and is down from then on. Conditions: the flags are readable. -/
namespace Go.Proofs
open Go Go.Vc
theorem bools_rel {w : World} {bd : TypeId → Nat → Prop} {bs : Nat → Prop} {e : TypeId} {a : Option Addr} {len cap : Nat} (h : DS.rel w bd bs (.slice e 1 .bool) [.slice a len cap]) :
    ∃ l : List Bool, RdBo w ⟨a, len, cap⟩ l ∧ len ≤ cap ∧ (cap = 0 ∨ bd e cap) := by
  have key : ∀ es : List Value, es.length = 1 → DS.rel w bd bs .bool es → ∃ x : Bool, [Value.bool x] = es ∧ True := by
    intro es hl hr
    obtain ⟨n, rfl⟩ := hr
    exact ⟨n, rfl, trivial⟩
  obtain ⟨l, h1, h2, h3, _⟩ := DS.flat (enc := fun b : Bool => [Value.bool b]) (fun _ => True) h (fun _ => rfl) (by decide) key
  exact ⟨l, h1, h2, h3⟩
end Go.Proofs
/- dunnagelaw04.ran: a disk behind a script of calls. Conditions: the script is readable. -/
namespace Go.Proofs
open Go Go.Vc
structure OpV where
  kind : Int
  at_ : Int
  n : Int
  v : UInt8
  short : Bool
  s : SV
  keep : List Bool
@[reducible] def encOp (o : OpV) : List Value := [.int .i64 o.kind, .int .i64 o.at_, .int .i64 o.n, .int .u8 (o.v.toNat : Int), .bool o.short, .slice o.s.a o.s.len o.s.cap]
/-- A slice that reads as these calls. -/
structure RdOps (w : World) (s : SV) (l : List OpV) : Prop where
  rd : RdS encOp 6 w s l
  ok : ∀ o ∈ l, RdBo w o.s o.keep ∧ (-9223372036854775808 ≤ o.n ∧ o.n ≤ 9223372036854775807) ∧ -9223372036854775808 ≤ o.at_ ∧ o.at_ ≤ 9223372036854775807
theorem RdOps.ext {w w' : World} {s : SV} {l : List OpV} (h : RdOps w s l) (e : Ext w w') : RdOps w' s l := ⟨h.rd.ext e, fun o ho => ⟨(h.ok o ho).1.ext e, (h.ok o ho).2⟩⟩
theorem ops_rel {w : World} {bd : TypeId → Nat → Prop} {bs : Nat → Prop} {e e' : TypeId} {a : Option Addr} {len cap : Nat}
    (h : DS.rel w bd bs (.slice e 6 (.struct (.cons 0 1 (.int .i64) (.cons 1 1 (.int .i64) (.cons 2 1 (.int .i64) (.cons 3 1 (.int .u8) (.cons 4 1 .bool (.cons 5 1 (.slice e' 1 .bool) .nil)))))))) [.slice a len cap]) :
    ∃ l : List OpV, RdOps w ⟨a, len, cap⟩ l := by
  have key : ∀ es : List Value, es.length = 6 → DS.rel w bd bs (.struct (.cons 0 1 (.int .i64) (.cons 1 1 (.int .i64) (.cons 2 1 (.int .i64) (.cons 3 1 (.int .u8) (.cons 4 1 .bool (.cons 5 1 (.slice e' 1 .bool) .nil))))))) es →
      ∃ o : OpV, encOp o = es ∧ (RdBo w o.s o.keep ∧ (-9223372036854775808 ≤ o.n ∧ o.n ≤ 9223372036854775807) ∧ -9223372036854775808 ≤ o.at_ ∧ o.at_ ≤ 9223372036854775807) := by
    intro es hl hr
    match es, hl with
    | [v0, v1, v2, v3, v4, v5], _ =>
      obtain ⟨⟨n0, h0, w0⟩, ⟨n1, h1, w1⟩, ⟨n2, h2, w2⟩, ⟨n3, h3, w3⟩, ⟨b4, h4⟩, h5, _⟩ := hr
      obtain ⟨a5, l5, c5, h50, _⟩ := id h5
      obtain ⟨keep, hk, _⟩ := bools_rel (h50 ▸ h5)
      have hb : IntKind.u8.min ≤ n3 ∧ n3 ≤ IntKind.u8.max := by simpa [Lit.wf] using w3
      have g0 : 0 ≤ n3 := hb.1
      have g1 : n3 ≤ 255 := hb.2
      have hx : ((UInt8.ofNat n3.toNat).toNat : Int) = n3 := by
        have : (UInt8.ofNat n3.toNat).toNat = n3.toNat := by simp; omega
        rw [this]; omega
      have c1 : IntKind.i64.min ≤ n1 ∧ n1 ≤ IntKind.i64.max := by simpa [Lit.wf] using w1
      have b1 : -9223372036854775808 ≤ n1 ∧ n1 ≤ 9223372036854775807 := c1
      have c2 : IntKind.i64.min ≤ n2 ∧ n2 ≤ IntKind.i64.max := by simpa [Lit.wf] using w2
      have b2 : -9223372036854775808 ≤ n2 ∧ n2 ≤ 9223372036854775807 := c2
      refine ⟨⟨n0, n1, n2, UInt8.ofNat n3.toNat, b4, ⟨a5, l5, c5⟩, keep⟩, ?_, hk, b2, b1⟩
      simp only [List.drop_zero, List.drop_succ_cons, List.take_succ_cons, List.take_zero, List.cons.injEq, and_true] at h0 h1 h2 h3 h4 h50
      subst h0 h1 h2 h3 h4 h50
      rw [encOp, hx]
  obtain ⟨l, h1, h2, h3, h4⟩ := DS.flat (enc := encOp) (fun o => RdBo w o.s o.keep ∧ (-9223372036854775808 ≤ o.n ∧ o.n ≤ 9223372036854775807) ∧ -9223372036854775808 ≤ o.at_ ∧ o.at_ ≤ 9223372036854775807) h (fun _ => rfl) (by decide) key
  exact ⟨l, h1, h4⟩
def stepD (D : DK) (o : OpV) : DK :=
  if o.kind = 1 then D else if o.kind = 2 then (flushD D).1 else if o.kind = 3 then (armD D o.n).1 else if o.kind = 4 then crashD D o.keep else if o.kind = 5 then startD D
  else if o.kind = 6 then (flipD D o.at_ o.n).1 else (writeD D o.at_ (fullB (o.v.toNat : Int) o.short)).1
def runD (D : DK) (l : List OpV) : DK := l.foldl stepD D
structure DkLe (D D' : DK) : Prop where
  len : D'.kept.length = D.kept.length
  ws : D'.waits.length ≤ D.waits.length + 1
  fl : D'.flips ≤ D.flips + 1
theorem DkLe.rfl' (D : DK) : DkLe D D := ⟨rfl, by omega, by omega⟩
theorem cntD_le (D : DK) : DkLe D (cntD D).1 := by
  obtain ⟨a, b, c⟩ := cntD_kept D
  exact ⟨by rw [a], by rw [b]; omega, by rw [c]; omega⟩
theorem flushD_le (D : DK) : DkLe D (flushD D).1 := by
  unfold flushD
  split
  · exact DkLe.rfl' D
  split
  · exact cntD_le D
  · obtain ⟨a, b, c⟩ := cntD_kept D
    exact ⟨by simp only [applyW_len], by simp, by simp only [c]; omega⟩
theorem armD_le (D : DK) (n : Int) : DkLe D (armD D n).1 := by
  unfold armD
  split
  · exact DkLe.rfl' D
  · exact ⟨rfl, by simp, by simp⟩
theorem crashD_le (D : DK) (keep : List Bool) : DkLe D (crashD D keep) := ⟨by simp only [crashD, applyW_len], by simp [crashD], by simp [crashD]⟩
theorem startD_le (D : DK) : DkLe D (startD D) := by
  unfold startD
  split
  · exact ⟨rfl, by simp, by simp⟩
  · exact DkLe.rfl' D
theorem flipD_le (D : DK) (a b : Int) : DkLe D (flipD D a b).1 := by
  unfold flipD
  split
  · exact DkLe.rfl' D
  · exact ⟨by simp only [List.length_set], by simp, by simp⟩
theorem writeD_le (D : DK) (a : Int) (b : List UInt8) : DkLe D (writeD D a b).1 := by
  unfold writeD
  split
  · exact DkLe.rfl' D
  split
  · exact DkLe.rfl' D
  · obtain ⟨x, y, z⟩ := cntD_kept { D with waits := D.waits ++ [(a.toNat, secOf b)] }
    exact ⟨by rw [x], by rw [y]; simp, by rw [z]; simp⟩
theorem stepD_le (D : DK) (o : OpV) : DkLe D (stepD D o) := by
  unfold stepD
  repeat' split
  · exact DkLe.rfl' D
  · exact flushD_le D
  · exact armD_le D _
  · exact crashD_le D _
  · exact startD_le D
  · exact flipD_le D _ _
  · exact writeD_le D _ _
theorem runD_snoc (D : DK) (l : List OpV) (o : OpV) : runD D (l ++ [o]) = stepD (runD D l) o := by simp [runD]
theorem runD_le : ∀ (l : List OpV) (D : DK), (runD D l).kept.length = D.kept.length ∧ (runD D l).waits.length ≤ D.waits.length + l.length ∧ (runD D l).flips ≤ D.flips + l.length
  | [], D => ⟨rfl, by simp [runD], by simp [runD]⟩
  | o :: l, D => by
    have h := stepD_le D o
    obtain ⟨a, b, c⟩ := runD_le l (stepD D o)
    have h1 := h.len; have h2 := h.ws; have h3 := h.fl
    have he : runD D (o :: l) = runD (stepD D o) l := rfl
    rw [he, List.length_cons]
    exact ⟨by omega, by omega, by omega⟩
end Go.Proofs
/- A list of texts in an array beside a device; what a device is behind Start, Arm(0), Flush. Conditions: those of each lemma. -/
namespace Go.Proofs
open Go Go.Vc
@[reducible] def slV (t : SV) : Value := .slice t.a t.len t.cap
/-- An array of eight slices that read as these texts, beside a device. -/
structure Wants (w : World) (b d : Nat) (k s : SV) (ts : List SV) (V : List (List UInt8)) : Prop where
  bk : BK w b T.a8_sl_uint8 (ts.map slV)
  tl : ts.length = V.length
  own : ∀ (j : Nat) t l, ts[j]? = some t → V[j]? = some l → OwnB w 0 t l ∧ ¬ t.blk b ∧ ∀ c, t.blk c → ¬ fp d k s c
  nb : ¬ fp d k s b
theorem Wants.dk {w w' : World} {b d : Nat} {k s s' : SV} {D' : DK} {ts : List SV} {V : List (List UInt8)} (h : Wants w b d k s ts V) (t : DkTo w w' d k s s' D') : Wants w' b d k s' ts V := by
  refine ⟨h.bk.upd t.u h.nb, h.tl, fun j x l hx hl => ?_, fun hb => ?_⟩
  · obtain ⟨h1, h2, h3⟩ := h.own j x l hx hl
    refine ⟨Own.upd h1 t.u h3, h2, fun c hc hf => ?_⟩
    rcases t.fp' hf with h4 | h4
    · exact h3 c hc h4
    · have := Own.blk_lt h1 hc; omega
  · rcases t.fp' hb with h4 | h4
    · exact h.nb h4
    · have := h.bk.lt; omega
theorem Wants.ext {w w' : World} {b d : Nat} {k s : SV} {ts : List SV} {V : List (List UInt8)} (h : Wants w b d k s ts V) (e : Ext w w') : Wants w' b d k s ts V :=
  ⟨h.bk.ext e, h.tl, fun j x l hx hl => ⟨Own.ext (h.own j x l hx hl).1 e, (h.own j x l hx hl).2⟩, h.nb⟩
theorem Wants.put {w : World} {b d : Nat} {k s : SV} {ts : List SV} {V : List (List UInt8)} (h : Wants w b d k s ts V) {i : Nat} (hi : i < V.length) {t : SV} {l : List UInt8} (ho : OwnB w 0 t l) (hb : ¬ t.blk b) (hd : ∀ c, t.blk c → ¬ fp d k s c) :
    (w.cell? (Addr.add ⟨b, 0, none⟩ i)).isSome = true ∧ w.frozen? (Addr.add ⟨b, 0, none⟩ i) = false ∧ Wants (w.setCell (Addr.add ⟨b, 0, none⟩ i) (slV t)) b d k s (ts.set i t) (V.set i l) ∧ Upd (fun x => x = b) w (w.setCell (Addr.add ⟨b, 0, none⟩ i) (slV t)) := by
  obtain ⟨c1, c2, c3⟩ := h.bk.store i (by rw [List.length_map, h.tl]; exact hi) (slV t)
  have u : Upd (fun x => x = b) w (w.setCell (Addr.add ⟨b, 0, none⟩ i) (slV t)) := (Upd.refl _ w).set (p := Addr.add ⟨b, 0, none⟩ i) (fun _ => by simp) _
  refine ⟨c1, c2, ⟨by rw [List.map_set]; exact c3, by rw [List.length_set, List.length_set]; exact h.tl, fun j x y hx hy => ?_, h.nb⟩, u⟩
  by_cases hj : i = j
  · subst hj
    rw [List.getElem?_set_self (by rw [h.tl]; exact hi)] at hx
    rw [List.getElem?_set_self hi] at hy
    obtain rfl := Option.some.inj hx
    obtain rfl := Option.some.inj hy
    exact ⟨Own.upd ho u fun c hc he => hb (he ▸ hc), hb, hd⟩
  · rw [List.getElem?_set_ne hj] at hx hy
    obtain ⟨h1, h2, h3⟩ := h.own j x y hx hy
    exact ⟨Own.upd h1 u fun c hc he => h2 (he ▸ hc), h2, h3⟩
theorem Wants.get {w : World} {b d : Nat} {k s : SV} {ts : List SV} {V : List (List UInt8)} (h : Wants w b d k s ts V) {i : Nat} {l : List UInt8} (hl : V[i]? = some l) :
    ∃ t : SV, w.cell? (Addr.add ⟨b, 0, none⟩ i) = some (.slice t.a t.len t.cap) ∧ RdB w t l := by
  have hi : i < ts.length := by rw [h.tl]; exact (List.getElem?_eq_some_iff.1 hl).1
  have ht : ts[i]? = some ts[i] := List.getElem?_eq_getElem hi
  exact ⟨ts[i], h.bk.get i (by rw [List.getElem?_map, ht]; rfl), (h.own i _ _ ht hl).1.rd⟩
@[reducible] def nilV8 : List Value := [.slice none 0 0, .slice none 0 0, .slice none 0 0, .slice none 0 0, .slice none 0 0, .slice none 0 0, .slice none 0 0, .slice none 0 0]
theorem Wants.new {w : World} {b d : Nat} {k s : SV} (h : BK w b T.a8_sl_uint8 nilV8) (hb : ¬ fp d k s b) : Wants w b d k s (List.replicate 8 ⟨none, 0, 0⟩) (List.replicate 8 []) := by
  refine ⟨h, rfl, fun j t l ht hl => ?_, hb⟩
  obtain rfl : t = ⟨none, 0, 0⟩ := List.eq_of_mem_replicate (List.mem_of_getElem? ht)
  obtain rfl : l = [] := List.eq_of_mem_replicate (List.mem_of_getElem? hl)
  exact ⟨Own.nil _ _ _ _, fun ⟨A, hA, _⟩ => by simp at hA, fun c ⟨A, hA, _⟩ => by simp at hA⟩
end Go.Proofs
/- Maps with plain keys: what is under each key; make, look up, set. Conditions: those that each lemma names. -/
namespace Go.Vc
open Go Go.MapKept
/-- The map in a block has just these: f tells what is under each key. -/
structure MapIs (w : World) (r : Nat) (d : TypeDesc) (f : Value → Option Value) : Prop where
  ex : ∃ es clock, w.heap[r]? = some (.map es clock) ∧ (∀ x ∈ es.toList, IsKey d x.key) ∧ (es.toList.map (·.key)).Nodup ∧
    (∀ k v, f k = some v ↔ ∃ e ∈ es.toList, e.key = k ∧ e.val = v)
theorem MapIs.upd {M : Nat → Prop} {w w' : World} {r : Nat} {d : TypeDesc} {f : Value → Option Value} (h : MapIs w r d f) (hu : Upd M w w') (hm : ¬ M r) : MapIs w' r d f := by
  obtain ⟨es, clock, hb, h⟩ := h.ex
  exact ⟨es, clock, hu.get hb hm, h⟩
theorem MapIs.ext {w w' : World} {r : Nat} {d : TypeDesc} {f : Value → Option Value} (h : MapIs w r d f) (hu : Ext w w') : MapIs w' r d f := h.upd hu id
theorem MapIs.lt {w : World} {r : Nat} {d : TypeDesc} {f : Value → Option Value} (h : MapIs w r d f) : r < w.heap.size := by
  obtain ⟨es, clock, hb, _⟩ := h.ex
  exact lt_of_blk hb
theorem MapIs.empty (w : World) (d : TypeDesc) : MapIs (w.alloc (.map #[] 0)) w.heap.size d fun _ => none :=
  ⟨#[], 0, blk_new w _, by simp, by simp, by simp⟩
theorem mkMV_new {P : Program} {t : TypeId} {w : World} {K : Option Nat → World → Prop} (hk : K (some w.heap.size) (w.alloc (.map #[] 0))) : mkMV P t none w K :=
  ⟨some w.heap.size, w.alloc (.map #[] 0), rfl, hk⟩
theorem find_spec {w : World} {r : Nat} {d : TypeDesc} {f : Value → Option Value} (h : MapIs w r d f) {k : Value} (hk : IsKey d k) :
    ∃ es clock, w.heap[r]? = some (.map es clock) ∧ ((f k = none ∧ Instr.findNow d k es.toList 0 = some none) ∨ ∃ j e, f k = some e.val ∧ Instr.findNow d k es.toList 0 = some (some (j, e.val)) ∧ es[j]? = some e ∧ e.key = k) := by
  obtain ⟨es, clock, hb, hks, hnd, hf⟩ := h.ex
  refine ⟨es, clock, hb, ?_⟩
  rcases findNow_spec hk es.toList 0 hks with ⟨h1, h2⟩ | ⟨j, e, h1, h2, h3⟩
  · refine .inl ⟨?_, h1⟩
    cases hfk : f k with
    | none => rfl
    | some v =>
      obtain ⟨e, he, hek, _⟩ := (hf k v).1 hfk
      exact absurd hek (h2 e he)
  · rw [Nat.zero_add] at h1
    exact .inr ⟨j, e, (hf k e.val).2 ⟨e, List.mem_of_getElem? h2, h3, rfl⟩, h1, by simpa using h2, h3⟩
theorem zero_val {P : Program} {t : TypeId} {v : Value} (h : (P.info? t).bind (·.zero) = some v) (w : World) : (zeroValue t).run P w = .ok v w := by
  cases hi : P.info? t with
  | none => simp [hi] at h
  | some i => rw [hi] at h; simp only [Option.bind_some] at h; simp [zeroValue, run_info hi, h]
theorem lk_ok {P : Program} {t kt et : TypeId} {d : TypeDesc} {w : World} {r : Nat} {f : Value → Option Value} {k z : Value} {rt : List Ty} {K : Tys rt → World → Prop} {x : Tys rt}
    (h : MapIs w r d f) (hu : P.underlying t = some (.map kt et)) (hd : P.underlying kt = some d) (hk : IsKey d k) (hz : (zeroValue et).run P w = .ok z w) (hx : encR rt x = .tuple #[(f k).getD z, .bool (f k).isSome]) (hK : K x w) :
    lkV P t (.map (some r)) k true w rt K := by
  obtain ⟨es, clock, hb, hc⟩ := find_spec h hk
  refine ⟨x, w, ?_, hK⟩
  rcases hc with ⟨h1, h2⟩ | ⟨j, e, h1, h2, _⟩
  · rw [h1] at hx
    simp [Instr.lookup, run_underlying hu, MapKept.run_getObj_map hb, run_checkKey hd hk, run_findKey hd h2, hz, hx]
  · rw [h1] at hx
    simp [Instr.lookup, run_underlying hu, MapKept.run_getObj_map hb, run_checkKey hd hk, run_findKey hd h2, hx]
theorem Upd.putO {M : Nat → Prop} {a b : World} (h : Upd M a b) {r : Nat} (hr : r < a.heap.size → M r) (o : Obj) : Upd M a { b with heap := b.heap.setIfInBounds r o } :=
  h.trans (M' := fun x => x = r) ⟨rfl, rfl, rfl, by simp, fun x _ hm => by simp [Ne.symm hm]⟩ fun _ hx e => by subst e; exact hr hx
/-- A key gets a value. -/
theorem mup_set {P : Program} {t kt et : TypeId} {d : TypeDesc} {w : World} {r : Nat} {f : Value → Option Value} {k v : Value} {K : World → Prop}
    (h : MapIs w r d f) (hu : P.underlying t = some (.map kt et)) (hd : P.underlying kt = some d) (hk : IsKey d k)
    (g : Value → Option Value) (hg1 : g k = some v) (hg2 : ∀ q, q ≠ k → g q = f q) (hK : ∀ w', Upd (fun x => x = r) w w' → w'.heap.size = w.heap.size → MapIs w' r d g → K w') :
    mupV P t (.map (some r)) k v w K := by
  obtain ⟨es, clock, hb, hks, hnd, hf⟩ := h.ex
  rcases findNow_spec hk es.toList 0 hks with ⟨h1, h2⟩ | ⟨j, e, h1, h2, h3⟩
  · refine ⟨{ w with heap := w.heap.setIfInBounds r (.map (es.push { key := k, val := v, born := clock }) (clock + 1)) }, ?_, hK _ ((Upd.refl (fun x => x = r) w).putO (fun _ => rfl) _) (by simp) ⟨_, _, (heap_set hb).1, ?_, ?_, ?_⟩⟩
    · simp [Instr.mapUpdate, run_underlying hu, MapKept.run_getObj_map hb, run_checkKey hd hk, run_findKey hd h1, run_setObj_map _ hb]
    · intro x hx
      simp only [Array.toList_push, List.mem_append, List.mem_singleton] at hx
      rcases hx with hx | rfl
      · exact hks x hx
      · exact hk
    · simp only [Array.toList_push, List.map_append, List.map_cons, List.map_nil]
      rw [List.nodup_append]
      refine ⟨hnd, by simp, ?_⟩
      intro a ha b hb' hab
      simp only [List.mem_singleton] at hb'
      obtain ⟨x, hx, rfl⟩ := List.mem_map.1 ha
      exact h2 x hx (by rw [hab, hb'])
    · intro q u
      simp only [Array.toList_push, List.mem_append, List.mem_singleton]
      by_cases hq : q = k
      · subst hq
        rw [hg1]
        constructor
        · intro hu'; obtain rfl := Option.some.inj hu'; exact ⟨_, .inr rfl, rfl, rfl⟩
        · rintro ⟨e, he | rfl, hek, hev⟩
          · exact absurd hek (h2 e he)
          · rw [← hev]
      · rw [hg2 q hq, hf]
        constructor
        · rintro ⟨e, he, h⟩; exact ⟨e, .inl he, h⟩
        · rintro ⟨e, he | rfl, hek, hev⟩
          · exact ⟨e, he, hek, hev⟩
          · exact absurd hek.symm hq
  · rw [Nat.zero_add] at h1
    have hj : es[j]? = some e := by simpa using h2
    refine ⟨{ w with heap := w.heap.setIfInBounds r (.map (es.modify j fun e => { e with key := k, val := v }) clock) }, ?_, hK _ ((Upd.refl (fun x => x = r) w).putO (fun _ => rfl) _) (by simp) ⟨_, _, (heap_set hb).1, ?_, ?_, ?_⟩⟩
    · simp [Instr.mapUpdate, run_underlying hu, MapKept.run_getObj_map hb, run_checkKey hd hk, run_findKey hd h1, hj, h3, run_keyThatStays hk, run_setObj_map _ hb]
    · have hkey : ∀ e', es[j]? = some e' → ({ e' with key := k, val := v } : MapEntry).key = e'.key := fun e' he' => by rw [hj] at he'; cases he'; exact h3.symm
      exact isKey_modify hks _ _ hkey
    · have hkey : ∀ e', es[j]? = some e' → ({ e' with key := k, val := v } : MapEntry).key = e'.key := fun e' he' => by rw [hj] at he'; cases he'; exact h3.symm
      rw [modify_keys j _ hkey]; exact hnd
    · intro q u
      have hjl : j < es.toList.length := (List.getElem?_eq_some_iff.1 h2).1
      have hmem : ∀ x : MapEntry, x ∈ (es.modify j fun e => { e with key := k, val := v }).toList ↔ x = { e with key := k, val := v } ∨ (x ∈ es.toList ∧ x.key ≠ k) := by
        intro x
        rw [Array.toList_modify]
        constructor
        · intro hx
          obtain ⟨i, hi⟩ := List.mem_iff_getElem?.1 hx
          rw [List.getElem?_modify] at hi
          by_cases hij : j = i
          · subst hij
            rw [h2] at hi
            simp at hi
            exact .inl hi.symm
          · simp only [hij, if_false] at hi
            cases hei : es.toList[i]? with
            | none => rw [hei] at hi; simp at hi
            | some y =>
              rw [hei] at hi
              simp at hi
              subst hi
              refine .inr ⟨List.mem_of_getElem? hei, fun hyk => hij ?_⟩
              have h1' : (es.toList.map (·.key))[j]? = some k := by simp [h2, h3]
              have h2' : (es.toList.map (·.key))[i]? = some k := by simp [hei, hyk]
              exact (List.getElem?_inj (by simpa using hjl) hnd).1 (h1'.trans h2'.symm)
        · rintro (rfl | ⟨hx, hxk⟩)
          · exact List.mem_iff_getElem?.2 ⟨j, by rw [List.getElem?_modify, h2]; simp⟩
          · obtain ⟨i, hi⟩ := List.mem_iff_getElem?.1 hx
            refine List.mem_iff_getElem?.2 ⟨i, ?_⟩
            rw [List.getElem?_modify]
            by_cases hij : j = i
            · subst hij; rw [h2] at hi; obtain rfl := Option.some.inj hi; exact absurd h3 hxk
            · rw [hi]; simp [hij]
      by_cases hq : q = k
      · subst hq
        rw [hg1]
        constructor
        · intro hu'; obtain rfl := Option.some.inj hu'; exact ⟨_, (hmem _).2 (.inl rfl), rfl, rfl⟩
        · rintro ⟨x, hx, hxk, hxv⟩
          rcases (hmem x).1 hx with rfl | ⟨_, hne⟩
          · rw [← hxv]
          · exact absurd hxk hne
      · rw [hg2 q hq, hf]
        constructor
        · rintro ⟨x, hx, hxk, hxv⟩; exact ⟨x, (hmem x).2 (.inr ⟨hx, fun h => hq (hxk.symm.trans h)⟩), hxk, hxv⟩
        · rintro ⟨x, hx, hxk, hxv⟩
          rcases (hmem x).1 hx with rfl | ⟨hx, _⟩
          · exact absurd hxk.symm hq
          · exact ⟨x, hx, hxk, hxv⟩
end Go.Vc
/- The document's disk (chapter 04) in memory: its kept texts in a map, its waiting writes in a list; New, kept, hit, Arm, Start. Conditions: those of each contract. -/
namespace Go.Proofs
open Go Go.Vc Go.MapKept
@[reducible] def encWt (x : Nat × SV) : List Value := [.int .i64 (x.1 : Int), .slice x.2.a x.2.len x.2.cap]
theorem encWt_len (x : Nat × SV) : (encWt x).length = 2 := rfl
@[reducible] def rkVs (m : Nat) (s : SV) (D : DK) : List Value := [.int .i64 (D.kept.length : Int), .map (some m), .slice s.a s.len s.cap, .int .i64 (D.armed : Int), .bool D.down, .int .i64 (D.flips : Int)]
/-- The blocks that it may write. -/
def rfp (rb m : Nat) (s : SV) (b : Nat) : Prop := b = rb ∨ b = m ∨ s.blk b
/-- What the map has of each sector; the texts lie apart from P. -/
def KeptIs (w : World) (P : Nat → Prop) (f : Value → Option Value) (kept : List Sec) : Prop :=
  ∀ at_ : Nat, at_ < kept.length → (∃ t : SV, f (.int .i64 (at_ : Int)) = some (.slice t.a t.len t.cap) ∧ RdB w t (kept.getD at_ zeroSec).1 ∧ ∀ b, t.blk b → b < w.heap.size ∧ ¬ P b) ∨ (f (.int .i64 (at_ : Int)) = none ∧ kept.getD at_ zeroSec = zeroSec)
structure WaitIs (w : World) (P : Nat → Prop) (wl : List (Nat × SV)) (ws : List Wr) : Prop where
  len : wl.length = ws.length
  at_ : ∀ i (h : i < wl.length) (h' : i < ws.length), wl[i].1 = ws[i].1 ∧ RdB w wl[i].2 ws[i].2.1 ∧ ∀ b, wl[i].2.blk b → b < w.heap.size ∧ ¬ P b
theorem KeptIs.upd {M P P' : Nat → Prop} {w w' : World} {f : Value → Option Value} {kept : List Sec} (h : KeptIs w P f kept) (u : Upd M w w') (hM : ∀ b, M b → P b) (hP : ∀ b, P' b → P b ∨ w.heap.size ≤ b) : KeptIs w' P' f kept := fun at_ ha => by
  rcases h at_ ha with ⟨t, h1, h2, h3⟩ | h1
  · refine .inl ⟨t, h1, h2.upd u fun b hb hm => (h3 b hb).2 (hM b hm), fun b hb => ⟨?_, fun g => ?_⟩⟩
    · have := (h3 b hb).1; have := u.size; omega
    · rcases hP b g with g | g
      · exact (h3 b hb).2 g
      · have := (h3 b hb).1; omega
  · exact .inr h1
theorem WaitIs.upd {M P P' : Nat → Prop} {w w' : World} {wl : List (Nat × SV)} {ws : List Wr} (h : WaitIs w P wl ws) (u : Upd M w w') (hM : ∀ b, M b → P b) (hP : ∀ b, P' b → P b ∨ w.heap.size ≤ b) : WaitIs w' P' wl ws := ⟨h.len, fun i h1 h2 => by
  obtain ⟨g1, g2, g3⟩ := h.at_ i h1 h2
  refine ⟨g1, g2.upd u fun b hb hm => (g3 b hb).2 (hM b hm), fun b hb => ⟨?_, fun g => ?_⟩⟩
  · have := (g3 b hb).1; have := u.size; omega
  · rcases hP b g with g | g
    · exact (g3 b hb).2 g
    · have := (g3 b hb).1; omega⟩
/-- The document's disk. A: what other things write (it lies apart from that). -/
structure RkAt (w : World) (rb m : Nat) (s : SV) (A : Nat → Prop) (D : DK) : Prop where
  blk : BK w rb T.dunnageref04_Disk (rkVs m s D)
  map : ∃ f, MapIs w m (.int .i64) f ∧ KeptIs w (fun b => rfp rb m s b ∨ A b) f D.kept
  wait : ∃ wl, OwnS encWt 2 T.dunnageref04_Wait w 0 s wl ∧ WaitIs w (fun b => rfp rb m s b ∨ A b) wl D.waits
  rm : rb ≠ m
  rs : ¬ s.blk rb
  ms : ¬ s.blk m
  fa : ∀ b, rfp rb m s b → ¬ A b
  rng : ∀ p ∈ D.waits, p.1 < D.kept.length
  num : D.kept.length ≤ 65536
  arm : D.armed < 9223372036854775808
  al : ∀ b, A b → b < w.heap.size
variable {w w' : World} {rb m : Nat} {s : SV} {A A' : Nat → Prop} {D : DK}
theorem RkAt.lt (h : RkAt w rb m s A D) {b : Nat} (hb : rfp rb m s b) : b < w.heap.size := by
  rcases hb with rfl | rfl | hb
  · exact h.blk.lt
  · obtain ⟨f, h1, _⟩ := h.map; exact h1.lt
  · obtain ⟨wl, h1, _⟩ := h.wait; exact h1.own.blk_lt hb
/-- Something else was done. -/
theorem RkAt.env (h : RkAt w rb m s A D) (u : Upd A w w') (hA : ∀ b, A' b → A b ∨ w.heap.size ≤ b) (hl : ∀ b, A' b → b < w'.heap.size) : RkAt w' rb m s A' D := by
  obtain ⟨f, h1, h2⟩ := h.map
  obtain ⟨wl, h3, h4⟩ := h.wait
  have hP : ∀ b, (rfp rb m s b ∨ A' b) → (rfp rb m s b ∨ A b) ∨ w.heap.size ≤ b := fun b hb => by
    rcases hb with hb | hb
    · exact .inl (.inl hb)
    · rcases hA b hb with g | g
      · exact .inl (.inr g)
      · exact .inr g
  refine ⟨h.blk.upd u (h.fa _ (.inl rfl)), ⟨f, h1.upd u (h.fa _ (.inr (.inl rfl))), h2.upd u (fun b hb => .inr hb) hP⟩, ⟨wl, ⟨h3.own.upd u fun b hb => h.fa b (.inr (.inr hb)), encWt_len, by decide⟩, h4.upd u (fun b hb => .inr hb) hP⟩, h.rm, h.rs, h.ms, fun b hb hAb => ?_, h.rng, h.num, h.arm, hl⟩
  rcases hA b hAb with g | g
  · exact h.fa b hb g
  · have := h.lt hb; omega
theorem RkAt.ext (h : RkAt w rb m s A D) (e : Ext w w') : RkAt w' rb m s A D := h.env (e.to A) (fun _ hb => .inl hb) fun b hb => by have := h.al b hb; have := e.size; omega
structure RkTo (w w' : World) (rb m : Nat) (s s' : SV) (A : Nat → Prop) (D' : DK) : Prop where
  at_ : RkAt w' rb m s' A D'
  u : Upd (rfp rb m s) w w'
  n : ∀ b, s'.blk b → s.blk b ∨ w.heap.size ≤ b
theorem RkAt.to (h : RkAt w rb m s A D) : RkTo w w rb m s s A D := ⟨h, Upd.refl _ _, fun _ hb => .inl hb⟩
abbrev rptr (rb : Nat) : Value := .pointer (some ⟨rb, 0, none⟩)
/-- A field of its own is written: not the map, not the list. -/
theorem RkAt.put (h : RkAt w rb m s A D) (i : Nat) (v : Value) (D' : DK) (hi : i < 6) (hv : (rkVs m s D).set i v = rkVs m s D') (hk : D'.kept = D.kept) (hw : D'.waits = D.waits) (ha : D'.armed < 9223372036854775808) :
    (w.cell? (Addr.add ⟨rb, 0, none⟩ i)).isSome = true ∧ w.frozen? (Addr.add ⟨rb, 0, none⟩ i) = false ∧ RkTo w (w.setCell (Addr.add ⟨rb, 0, none⟩ i) v) rb m s s A D' := by
  obtain ⟨k1, k2, k3⟩ := h.blk.store i hi v
  rw [hv] at k3
  have u : Upd (fun x => x = rb) w (w.setCell (Addr.add ⟨rb, 0, none⟩ i) v) := by
    rw [add_mk]; exact (Upd.refl (fun x => x = rb) w).set (p := ⟨rb, 0 + i, none⟩) (fun _ => rfl) _
  generalize w.setCell _ _ = w1 at *
  obtain ⟨f, h1, h2⟩ := h.map
  obtain ⟨wl, h3, h4⟩ := h.wait
  refine ⟨k1, k2, ⟨k3, ⟨f, h1.upd u fun g => h.rm g.symm, by rw [hk]; exact h2.upd u (fun b hb => .inl (.inl hb)) fun b hb => .inl hb⟩, ⟨wl, ⟨h3.own.upd u fun b hb g => h.rs (g ▸ hb), encWt_len, by decide⟩, by rw [hw]; exact h4.upd u (fun b hb => .inl (.inl hb)) fun b hb => .inl hb⟩, h.rm, h.rs, h.ms, h.fa, by rw [hk, hw]; exact h.rng, by rw [hk]; exact h.num, ha, fun b hb => by have := h.al b hb; have := u.size; omega⟩, u.mono fun b _ hb => .inl hb, fun b hb => .inl hb⟩
theorem map_u : Try.prog.underlying 170 = some (.map T.int T.sl_uint8) := by kernel_rfl
theorem int_u : Try.prog.underlying T.int = some (.int .i64) := by kernel_rfl
theorem RkTo.tr {w0 w1 w2 : World} {s0 s1 s2 : SV} {D1 D2 : DK} (h : RkTo w0 w1 rb m s0 s1 A D1) (g : RkTo w1 w2 rb m s1 s2 A D2) : RkTo w0 w2 rb m s0 s2 A D2 :=
  ⟨g.at_, h.u.trans g.u fun x hx hb => by
    rcases hb with rfl | rfl | hb
    · exact .inl rfl
    · exact .inr (.inl rfl)
    · rcases h.n x hb with g | g
      · exact .inr (.inr g)
      · omega, fun b hb => by
    rcases g.n b hb with g2 | g2
    · exact h.n b g2
    · exact .inr (by have := h.u.size; omega)⟩
set_option maxRecDepth 100000 in
theorem refDk_kept.spec (h : RkAt w rb m s A D) {i : Nat} (hi : i < D.kept.length) :
    CallT [.one .slice] Try.prog F.dunnageref04_Disk_kept [rptr rb, .int .i64 (i : Int)] w fun r w' => OwnB w' w.heap.size r (D.kept.getD i zeroSec).1 ∧ Ext w w' := by
  refine dunnageref04_Disk_kept.vc (some ⟨rb, 0, none⟩) (i : Int) w _ ?_
  obtain ⟨f, h1, h2⟩ := h.map
  refine ⟨some m, h.blk.get 1 rfl, ?_⟩
  have hl := (D.kept.getD i zeroSec).2
  rcases h2 i hi with ⟨t, g1, g2, g3⟩ | ⟨g1, g2⟩
  · refine lk_ok (x := (t, true)) h1 map_u int_u rfl (z := .slice none 0 0) (zero_val (by kernel_rfl) w) (by rw [g1]; rfl) ?_
    have htl := g2.lenB
    refine cnd_pos rfl ?_
    have h0 : Own w w.heap.size T.uint8 1 ⟨none, 0, 0⟩ [] := Own.nil _ _ _ _
    have hroom : (0 : Nat) < 0 + t.len → Builtin.nextslicecap (0 + t.len) 0 * 1 ≤ 281474976710656 := fun hc => by
      rw [Nat.zero_add, nextcap_zero (by omega)]; omega
    refine appV_own (s := ⟨none, 0, 0⟩) appB h0 (g2.src (B8_one _)) (Nat.le_refl _) hroom fun y1 w5 q1 _ u5 _ => ?_
    rw [List.nil_append] at q1
    exact ⟨q1, (Upd.refl _ w).own h0 (Nat.le_refl _) u5⟩
  · refine lk_ok (x := (⟨none, 0, 0⟩, false)) h1 map_u int_u rfl (z := .slice none 0 0) (zero_val (by kernel_rfl) w) (by rw [g1]; rfl) ?_
    refine cnd_neg rfl (mkSV_own (bt := 1) (sz := 1) sl_u8 (by kernel_rfl) (by kernel_rfl) u8_z rfl (by decide) (by decide) (by decide) (by decide) ?_)
    rw [show Int.toNat 512 = 512 from rfl, reps_eq, g2]
    refine ⟨?_, ext_alloc _ _⟩
    have hB : ∀ n, B8 (List.replicate n 0) = List.replicate n (Value.int .u8 0) := fun n => by simp [B8]
    show Own _ _ _ _ _ (B8 (List.replicate 512 0))
    rw [hB]
    exact Own.new w T.uint8 1 512 (List.replicate 512 (Value.int .u8 0)) (by rw [List.length_replicate])
theorem refDk_hit.spec (h : RkAt w rb m s A D) (hd : D.down = false) :
    CallT [.one .bool] Try.prog F.dunnageref04_Disk_hit [rptr rb] w fun r w' => r = decide ((cntD D).2 ≠ 0) ∧ RkTo w w' rb m s s A (cntD D).1 := by
  refine dunnageref04_Disk_hit.vc (some ⟨rb, 0, none⟩) w _ ?_
  have ha := h.arm
  refine ⟨(D.armed : Int), h.blk.get 3 rfl, cnd_dec (fun h0 => ?_) (fun h0 => ⟨(D.armed : Int), h.blk.get 3 rfl, ?_⟩)⟩
  · have h00 : D.armed = 0 := by omega
    have : cntD D = (D, 0) := by rw [cntD, hitD, if_pos h00]; rfl
    rw [this]
    exact ⟨rfl, h.to⟩
  · have hw1 : IntKind.i64.wrap ((D.armed : Int) - 1) = ((D.armed - 1 : Nat) : Int) := by rw [i64_id] <;> omega
    rw [hw1]
    obtain ⟨k1, k2, k3⟩ := h.put 3 (.int .i64 ((D.armed - 1 : Nat) : Int)) { D with armed := D.armed - 1 } (by decide) rfl rfl rfl (by show D.armed - 1 < _; omega)
    refine ⟨k1, k2, ?_⟩
    have hh : hitD D = ({ D with armed := D.armed - 1 }, D.armed - 1 == 0) := by rw [hitD, if_neg (by omega)]
    refine ⟨((D.armed - 1 : Nat) : Int), k3.at_.blk.get 3 rfl, cnd_beq (fun hz => ?_) (fun hz => ?_)⟩
    · have hz' : (D.armed - 1 == 0) = true := by simp; omega
      have hc : cntD D = ({ D with armed := D.armed - 1, down := true }, 40) := by rw [cntD, hh, hz', if_pos rfl]
      rw [hc]
      obtain ⟨j1, j2, j3⟩ := k3.at_.put 4 (.bool true) { D with armed := D.armed - 1, down := true } (by decide) rfl rfl rfl (by show D.armed - 1 < _; omega)
      exact ⟨j1, j2, true, j3.at_.blk.get 4 rfl, rfl, k3.tr j3⟩
    · have hz' : (D.armed - 1 == 0) = false := by simp; omega
      have hc : cntD D = ({ D with armed := D.armed - 1 }, 0) := by rw [cntD, hh, hz', if_neg (by simp)]
      rw [hc]
      exact ⟨D.down, k3.at_.blk.get 4 rfl, by rw [hd]; rfl, k3⟩
theorem refDk_Arm.spec (h : RkAt w rb m s A D) {n : Int} (hn : n ≤ 9223372036854775807) :
    CallT [.one (.int .i64)] Try.prog F.dunnageref04_Disk_Arm [rptr rb, .int .i64 n] w fun r w' => r = (armD D n).2 ∧ RkTo w w' rb m s s A (armD D n).1 := by
  refine dunnageref04_Disk_Arm.vc (some ⟨rb, 0, none⟩) n w _ ?_
  refine ⟨D.down, h.blk.get 4 rfl, cnd_intro (fun hd => ?_) (fun hd => ?_)⟩
  · rw [armD, if_pos hd]; exact ⟨rfl, h.to⟩
  · rw [armD, if_neg (by rw [hd]; simp)]
    have hm : max 0 n = (((max n 0).toNat : Nat) : Int) := by omega
    rw [hm]
    obtain ⟨k1, k2, k3⟩ := h.put 3 (.int .i64 (((max n 0).toNat : Nat) : Int)) { D with armed := (max n 0).toNat } (by decide) rfl rfl rfl (by show (max n 0).toNat < _; omega)
    exact ⟨k1, k2, rfl, k3⟩
theorem RkTo.pre {w0 w1 w2 : World} {s1 : SV} {D1 : DK} (e : Ext w0 w1) (g : RkTo w1 w2 rb m s s1 A D1) : RkTo w0 w2 rb m s s1 A D1 :=
  ⟨g.at_, (e.to (rfp rb m s)).tr g.u, fun b hb => (g.n b hb).imp id fun h => by have := e.size; omega⟩
theorem RkTo.post {w0 w1 w2 : World} {s1 : SV} {D1 : DK} (g : RkTo w0 w1 rb m s s1 A D1) (e : Ext w1 w2) : RkTo w0 w2 rb m s s1 A D1 :=
  ⟨g.at_.ext e, g.u.tr (e.to _), g.n⟩
/-- The list of waiting writes becomes another one. -/
theorem RkAt.putW (h : RkAt w rb m s A D) {w1 : World} (u : Upd s.blk w w1) {s' : SV} {wl' : List (Nat × SV)} {ws' : List Wr} (ho : OwnS encWt 2 T.dunnageref04_Wait w1 0 s' wl') (hloc : ∀ b, s'.blk b → s.blk b ∨ w.heap.size ≤ b)
    (hwl : WaitIs w1 (fun b => rfp rb m s' b ∨ A b) wl' ws') (hrng : ∀ p ∈ ws', p.1 < D.kept.length) :
    (w1.cell? (Addr.add ⟨rb, 0, none⟩ 2)).isSome = true ∧ w1.frozen? (Addr.add ⟨rb, 0, none⟩ 2) = false ∧ RkTo w (w1.setCell (Addr.add ⟨rb, 0, none⟩ 2) (.slice s'.a s'.len s'.cap)) rb m s s' A { D with waits := ws' } := by
  have hz := u.size
  have hb1 := h.blk.upd u h.rs
  obtain ⟨k1, k2, k3⟩ := hb1.store 2 (by simp) (.slice s'.a s'.len s'.cap)
  have u2 : Upd (fun x => x = rb) w1 (w1.setCell (Addr.add ⟨rb, 0, none⟩ 2) (.slice s'.a s'.len s'.cap)) := by
    rw [add_mk]; exact (Upd.refl (fun x => x = rb) w1).set (p := ⟨rb, 0 + 2, none⟩) (fun _ => rfl) _
  generalize w1.setCell _ _ = w2 at *
  obtain ⟨f, h1, h2⟩ := h.map
  have hrb := h.blk.lt
  have hm := h1.lt
  have hs'rb : ¬ s'.blk rb := fun g => by rcases hloc rb g with g | g; exact h.rs g; omega
  have hs'm : ¬ s'.blk m := fun g => by rcases hloc m g with g | g; exact h.ms g; omega
  have uT : Upd (rfp rb m s) w w2 := (u.mono fun b _ hb => .inr (.inr hb)).trans u2 fun x hx hb => .inl hb
  have hP : ∀ b, (rfp rb m s' b ∨ A b) → (rfp rb m s b ∨ A b) ∨ w.heap.size ≤ b := fun b hb => by
    rcases hb with (hb | hb | hb) | hb
    · exact .inl (.inl (.inl hb))
    · exact .inl (.inl (.inr (.inl hb)))
    · exact (hloc b hb).imp (fun g => .inl (.inr (.inr g))) id
    · exact .inl (.inr hb)
  refine ⟨k1, k2, ⟨k3, ⟨f, (h1.upd u h.ms).upd u2 fun g => h.rm g.symm, h2.upd uT (fun b hb => .inl hb) hP⟩, ⟨wl', ⟨ho.own.upd u2 fun b hb g => hs'rb (g ▸ hb), encWt_len, by decide⟩, hwl.upd u2 (fun b hb => .inl (.inl hb)) fun b hb => .inl hb⟩, h.rm, hs'rb, hs'm, fun b hb hAb => ?_, hrng, h.num, h.arm, fun b hb => by have := h.al b hb; have := u2.size; omega⟩, uT, hloc⟩
  rcases hb with hb | hb | hb
  · exact h.fa b (.inl hb) hAb
  · exact h.fa b (.inr (.inl hb)) hAb
  · rcases hloc b hb with g | g
    · exact h.fa b (.inr (.inr g)) hAb
    · have := h.al b hAb; omega
/-- A sector is kept. -/
theorem RkAt.mapset (h : RkAt w rb m s A D) {a : Nat} (ha : a < D.kept.length) {t : SV} {y : Sec} (ht : RdB w t y.1) (htb : ∀ b, t.blk b → b < w.heap.size ∧ ¬ (rfp rb m s b ∨ A b)) {K : World → Prop}
    (hk : ∀ w', RkTo w w' rb m s s A { D with kept := D.kept.set a y } → K w') : mupV Try.prog 170 (.map (some m)) (.int .i64 (a : Int)) (.slice t.a t.len t.cap) w K := by
  classical
  obtain ⟨f, h1, h2⟩ := h.map
  obtain ⟨wl, h3, h4⟩ := h.wait
  refine mup_set h1 map_u int_u rfl (fun q => if q = .int .i64 (a : Int) then some (.slice t.a t.len t.cap) else f q) (by simp) (fun q hq => by simp [hq]) ?_
  intro w1 u hz g
  have uT : Upd (rfp rb m s) w w1 := u.mono fun b _ hb => .inr (.inl hb)
  refine hk w1 ⟨⟨?_, ⟨_, g, fun i hi => ?_⟩, ⟨wl, ⟨h3.own.upd u fun b hb g => h.ms (g ▸ hb), encWt_len, by decide⟩, h4.upd uT (fun b hb => .inl hb) fun b hb => .inl hb⟩, h.rm, h.rs, h.ms, h.fa, by simp only [List.length_set]; exact h.rng, by simp only [List.length_set]; exact h.num, h.arm, fun b hb => by have := h.al b hb; omega⟩, uT, fun b hb => .inl hb⟩
  · have := h.blk.upd u h.rm
    simpa [rkVs] using this
  · simp only [List.length_set] at hi
    by_cases hia : i = a
    · subst hia
      refine .inl ⟨t, by simp, ?_, fun b hb => ?_⟩
      · rw [List.getD_eq_getElem?_getD, List.getElem?_set_self ha]
        exact ht.upd uT fun b hb hr => (htb b hb).2 (.inl hr)
      · have := htb b hb; exact ⟨by omega, this.2⟩
    · have hne : (Value.int .i64 (i : Int)) ≠ .int .i64 (a : Int) := by intro g; simp at g; omega
      have hgd : (D.kept.set a y).getD i zeroSec = D.kept.getD i zeroSec := by rw [List.getD_eq_getElem?_getD, List.getElem?_set_ne (fun g => hia g.symm), ← List.getD_eq_getElem?_getD]
      simp only [hne, if_false, hgd]
      exact h2.upd uT (fun b hb => .inl hb) (fun b hb => .inl hb) i hi
theorem refDk_Start.spec (h : RkAt w rb m s A D) :
    CallT [.one (.int .i64)] Try.prog F.dunnageref04_Disk_Start [rptr rb] w fun r w' => r = 0 ∧ ∃ s', RkTo w w' rb m s s' A (startD D) := by
  refine dunnageref04_Disk_Start.vc (some ⟨rb, 0, none⟩) w _ ?_
  refine ⟨D.down, h.blk.get 4 rfl, cnd_intro (fun hd => ?_) (fun hd => ?_)⟩
  · rw [startD, if_pos hd]
    obtain ⟨a1, a2, a3⟩ := h.put 4 (.bool false) { D with down := false } (by decide) rfl rfl rfl h.arm
    obtain ⟨b1, b2, b3⟩ := a3.at_.put 3 (.int .i64 0) { D with down := false, armed := 0 } (by decide) rfl rfl rfl (by show (0 : Nat) < 9223372036854775808; decide)
    obtain ⟨c1, c2, c3⟩ := b3.at_.putW (w1 := _) (Upd.refl _ _) (s' := ⟨none, 0, 0⟩) (wl' := []) (ws' := []) (OwnS.nil encWt_len (by decide) _ _ _) (fun b hb => by obtain ⟨A, hA, _⟩ := hb; simp at hA) ⟨rfl, fun i h => by simp at h⟩ (by simp)
    exact ⟨a1, a2, b1, b2, c1, c2, rfl, ⟨none, 0, 0⟩, (a3.tr b3).tr c3⟩
  · rw [startD, if_neg (by rw [hd]; simp)]
    exact ⟨rfl, s, h.to⟩
theorem appWt : AppT Try.prog [T.sl_dunnageref04_Wait, T.sl_dunnageref04_Wait] T.dunnageref04_Wait 2 32 [.int .i64 0, .slice none 0 0] :=
  ⟨⟨T.sl_dunnageref04_Wait, rfl, by kernel_rfl⟩, ⟨T.sl_dunnageref04_Wait, _, rfl, by kernel_rfl, .inr ⟨T.dunnageref04_Wait, rfl⟩⟩, by kernel_rfl, by kernel_rfl, by decide, by kernel_rfl, rfl, by decide⟩
set_option maxRecDepth 100000 in
theorem refDk_Write.spec (h : RkAt w rb m s A D) (hn : D.waits.length ≤ 1000000) {at_ : Int} {t : SV} {b : List UInt8} (ht : RdB w t b) :
    CallT [.one (.int .i64)] Try.prog F.dunnageref04_Disk_Write [rptr rb, .int .i64 at_, .slice t.a t.len t.cap] w fun r w' => r = (writeD D at_ b).2 ∧ ∃ s', RkTo w w' rb m s s' A (writeD D at_ b).1 := by
  refine dunnageref04_Disk_Write.vc (some ⟨rb, 0, none⟩) at_ t w _ ?_
  have htl := ht.lenB
  refine ⟨D.down, h.blk.get 4 rfl, cnd_intro (fun hd => ?_) (fun hd => ?_)⟩
  · rw [writeD, if_pos hd]; exact ⟨rfl, s, h.to⟩
  rw [writeD, if_neg (by rw [hd]; simp)]
  have bad : (¬ (0 ≤ at_ ∧ at_ < D.kept.length) ∨ b.length ≠ 512) → (1 : Int) = (if ¬ (0 ≤ at_ ∧ at_ < D.kept.length) ∨ b.length ≠ 512 then (D, (1 : Int)) else cntD { D with waits := D.waits ++ [(at_.toNat, secOf b)] }).2 ∧ ∃ s', RkTo w w rb m s s' A (if ¬ (0 ≤ at_ ∧ at_ < D.kept.length) ∨ b.length ≠ 512 then (D, (1 : Int)) else cntD { D with waits := D.waits ++ [(at_.toNat, secOf b)] }).1 := fun hb => by
    rw [if_pos hb]; exact ⟨rfl, s, h.to⟩
  refine ⟨fun _ v => w = v ∧ (0 ≤ at_ ∧ at_ < D.kept.length) ∧ b.length = 512, cnd_dec (fun g => bad (.inl (by omega))) fun g1 => ⟨(D.kept.length : Int), h.blk.get 0 rfl, cnd_dec (fun g => bad (.inl (by omega))) fun g2 => cnd_bne (fun g => bad (.inr (by omega))) fun g3 => ⟨rfl, by omega, by omega⟩⟩, ?_⟩
  rintro _ _ _ ⟨rfl, hat, h512⟩
  rw [if_neg (by omega)]
  have ed := ext_drew w
  have hD := h.ext ed
  refine ⟨fun v => BK v rb T.dunnageref04_Disk (rkVs m s D), hD.blk, s, fun v hv => hv.get 2 rfl, ?_⟩
  have htd := ht.ext ed
  generalize w.drew = wd at *
  have h0 : Own wd wd.heap.size T.uint8 1 ⟨none, 0, 0⟩ [] := Own.nil _ _ _ _
  have hroom : (0 : Nat) < 0 + t.len → Builtin.nextslicecap (0 + t.len) 0 * 1 ≤ 281474976710656 := fun hc => by
    rw [Nat.zero_add, nextcap_zero (by omega)]; omega
  refine appV_own (s := ⟨none, 0, 0⟩) appB h0 (htd.src (B8_one _)) (Nat.le_refl _) hroom fun c w1 hc _ u1 _ => ?_
  rw [List.nil_append] at hc
  have hc : OwnB w1 wd.heap.size c b := hc
  have e1 : Ext wd w1 := (Upd.refl _ wd).own h0 (Nat.le_refl _) u1
  have hD1 := hD.ext e1
  refine ⟨hD1.blk, ?_⟩
  have e2 := ext_alloc w1 (.cells (encWt (at_.toNat, c)).toArray T.dunnageref04_Wait)
  have hcell : (Value.int .i64 at_ : Value) = .int .i64 ((at_.toNat : Nat) : Int) := by congr 1; omega
  rw [hcell]
  have hsrc := (Own.new w1 T.dunnageref04_Wait 2 1 (encWt (at_.toNat, c)) rfl).rd.src (P := Try.prog) (by intro v hv; simp [encWt] at hv; rcases hv with rfl | rfl <;> rfl)
  have hz2 : (w1.alloc (.cells (encWt (at_.toNat, c)).toArray T.dunnageref04_Wait)).heap.size = w1.heap.size + 1 := by simp
  generalize w1.alloc (.cells (encWt (at_.toNat, c)).toArray T.dunnageref04_Wait) = w2 at *
  have hD2 := hD1.ext e2
  have hc2 := hc.ext e2
  refine ⟨hD2.blk, ?_⟩
  obtain ⟨wl, h3, h4⟩ := hD2.wait
  have hwl := h3.len
  have hwl2 := h4.len
  refine appV_ownL appWt h3.own hsrc (Nat.zero_le _) (fun hlt => Nat.le_trans (Nat.mul_le_mul_right _ (nextcap_le hlt)) (by show (2 * (s.len + 1) + 192) * 32 ≤ 281474976710656; omega)) ?_
  intro s' w3 ho hl3 u3 _ hloc
  have hloc' : ∀ x, s'.blk x → s.blk x ∨ w2.heap.size ≤ x := by
    rintro x ⟨A', hA', rfl⟩
    rcases hloc with hl | hl
    · exact .inl ⟨A', by rw [← hl]; exact hA', rfl⟩
    · rw [hl] at hA'; obtain rfl := Option.some.inj hA'; exact .inr (Nat.le_refl _)
  have hz1 := e1.size
  have hz3 := u3.size
  have hcb : ∀ x, c.blk x → wd.heap.size ≤ x ∧ x < w1.heap.size := fun x hx => ⟨hc.blk_ge hx, hc.blk_lt hx⟩
  have hW : WaitIs w3 (fun b => rfp rb m s' b ∨ A b) (wl ++ [(at_.toNat, c)]) (D.waits ++ [(at_.toNat, secOf b)]) := by
    have h5 : WaitIs w3 (fun b => rfp rb m s' b ∨ A b) wl D.waits := h4.upd u3 (fun b hb => .inl (.inr (.inr hb))) fun b hb => by
      rcases hb with (hb | hb | hb) | hb
      · exact .inl (.inl (.inl hb))
      · exact .inl (.inl (.inr (.inl hb)))
      · exact (hloc' b hb).imp (fun g => .inl (.inr (.inr g))) id
      · exact .inl (.inr hb)
    refine ⟨by simp [hwl2], fun i hi hi' => ?_⟩
    by_cases hil : i < wl.length
    · rw [List.getElem_append_left hil, List.getElem_append_left (by omega)]
      exact h5.at_ i hil (by omega)
    · have hie : i = wl.length := by simp at hi; omega
      subst hie
      have e1' : (wl ++ [(at_.toNat, c)])[wl.length] = (at_.toNat, c) := by simp
      have e2' : (D.waits ++ [(at_.toNat, secOf b)])[wl.length] = (at_.toNat, secOf b) := by simp [hwl2]
      rw [e1', e2']
      refine ⟨rfl, ?_, fun x hx => ⟨by have := hcb x hx; omega, ?_⟩⟩
      · rw [secOf_val h512]
        exact hc2.rd.upd u3 fun x hx hs => by have := hcb x hx; have := hD.lt (.inr (.inr hs)); omega
      · have := hcb x hx
        rintro ((g | g | g) | g)
        · have := hD.lt (.inl g); omega
        · have := hD.lt (.inr (.inl g)); omega
        · rcases hloc' x g with g | g
          · have := hD.lt (.inr (.inr g)); omega
          · omega
        · have := hD.al x g; omega
  obtain ⟨k1, k2, k3⟩ := hD2.putW u3 (s' := s') (wl' := wl ++ [(at_.toNat, c)]) (ws' := D.waits ++ [(at_.toNat, secOf b)]) ⟨by rw [List.flatMap_append]; simpa using ho, encWt_len, by decide⟩ hloc' hW (fun p hp => by
    rcases List.mem_append.1 hp with hp | hp
    · exact h.rng p hp
    · obtain rfl := by simpa using hp
      show at_.toNat < _; omega)
  refine ⟨k1, k2, CallT.mono (refDk_hit.spec k3.at_ hd) ?_⟩
  rintro _ w5 ⟨rfl, t5⟩
  have hall := RkTo.pre (ed.tr (e1.tr e2)) (k3.tr t5)
  have hcode : (cntD { D with waits := D.waits ++ [(at_.toNat, secOf b)] }).2 = 0 ∨ (cntD { D with waits := D.waits ++ [(at_.toNat, secOf b)] }).2 = 40 := by unfold cntD; split <;> simp
  exact cnd_dec (fun hne => ⟨(hcode.resolve_left hne).symm, s', hall⟩) (fun he => ⟨(Classical.not_not.1 he).symm, s', hall⟩)
end Go.Proofs
/- The document's disk: Read, Flush, Crash, Flip, New. Conditions: those of each contract. -/
namespace Go.Proofs
open Go Go.Vc Go.MapKept
variable {w w' : World} {rb m : Nat} {s : SV} {A A' : Nat → Prop} {D : DK}
theorem lastW_next {ws : List Wr} {i j : Nat} {p : Wr} {x : Sec} (hp : ws[j]? = some p) : lastW (ws.take (j + 1)) i x = if p.1 = i then p.2 else lastW (ws.take j) i x := by
  rw [List.take_add_one, hp, Option.toList_some, lastW, List.foldl_append]; rfl
theorem getElem_of {α : Type} {l : List α} {i : Nat} {x : α} (h : l[i]? = some x) (hi : i < l.length) : l[i] = x := by
  rw [List.getElem?_eq_getElem hi] at h; exact Option.some.inj h
set_option maxRecDepth 100000 in
theorem refDk_Read.spec (h : RkAt w rb m s A D) (hn : D.waits.length ≤ 2000000) (at_ : Int) :
    CallT [.one .slice, .one (.int .i64)] Try.prog F.dunnageref04_Disk_Read [rptr rb, .int .i64 at_] w fun r w' => OwnB w' w.heap.size r.1 (readD D at_).1 ∧ r.2 = (readD D at_).2 ∧ Ext w w' := by
  refine dunnageref04_Disk_Read.vc (some ⟨rb, 0, none⟩) at_ w _ ?_
  refine ⟨D.down, h.blk.get 4 rfl, cnd_intro (fun hd => ?_) (fun hd => ?_)⟩
  · rw [readD, if_pos hd]; exact ⟨Own.nil _ _ _ _, rfl, Upd.refl _ _⟩
  have bad : ¬ (0 ≤ at_ ∧ at_ < D.kept.length) → OwnB w w.heap.size ⟨none, 0, 0⟩ (readD D at_).1 ∧ (1 : Int) = (readD D at_).2 ∧ Ext w w := fun g => by
    rw [readD, if_neg (by rw [hd]; simp), if_pos g]; exact ⟨Own.nil _ _ _ _, rfl, Upd.refl _ _⟩
  refine ⟨fun _ w' => w = w' ∧ (0 ≤ at_ ∧ at_ < D.kept.length), cnd_dec (fun g => bad (by omega)) fun g1 => ⟨(D.kept.length : Int), h.blk.get 0 rfl, cnd_dec (fun g => bad (by omega)) fun g2 => ⟨rfl, by omega, by omega⟩⟩, ?_⟩
  rintro _ _ _ ⟨rfl, hat⟩
  clear bad
  rw [readD, if_neg (by rw [hd]; simp), if_neg (by omega)]
  obtain ⟨i, rfl⟩ : ∃ i : Nat, at_ = i := ⟨at_.toNat, by omega⟩
  rw [Int.toNat_natCast]
  refine CallT.mono (refDk_kept.spec h (i := i) (by omega)) ?_
  rintro o w1 ⟨ho, e1⟩
  refine ⟨fun n x w' => ∃ j : Nat, x.2 = j ∧ j ≤ D.waits.length ∧ n = D.waits.length - j ∧ OwnB w' w.heap.size x.1 (lastW (D.waits.take j) i (D.kept.getD i zeroSec)).1 ∧ Ext w w', ⟨_, 0, rfl, by omega, rfl, ho, e1⟩, ?_⟩
  rintro n ⟨x, _⟩ _ w2 ⟨j, rfl, hj, rfl, hx, e2⟩
  dsimp only at hx ⊢
  have h2 := h.ext e2
  obtain ⟨wl, h3, h4⟩ := h2.wait
  have hsl := h3.len
  have hwl := h4.len
  refine ⟨s, h2.blk.get 2 rfl, cnd_dec (fun hlt => ?_) (fun hge => ?_)⟩
  · have hjw : j < D.waits.length := by omega
    have hp : D.waits[j]? = some D.waits[j] := List.getElem?_eq_getElem hjw
    have hq : wl[j]? = some wl[j] := List.getElem?_eq_getElem (by omega)
    obtain ⟨g1, g2, g3⟩ := h4.at_ j (by omega) hjw
    generalize D.waits[j] = p at *
    generalize wl[j] = q at *
    have hw : IntKind.i64.wrap ((j : Int) + 1) = ((j + 1 : Nat) : Int) := by rw [i64_id] <;> omega
    have hpl := p.2.2
    rw [hw]
    simp only [Int.toNat_natCast]
    refine ⟨s, h2.blk.get 2 rfl, by omega, by omega, h3.rd.get (i := j) (by omega) fun C hC => ⟨(q.1 : Int), h3.rd.fld hq hC (k := 0) rfl, cnd_beq (fun he => ?_) (fun hne => ?_)⟩⟩
    · refine ⟨s, h2.blk.get 2 rfl, by omega, by omega, ?_⟩
      rw [hC]
      refine ⟨q.2, h3.rd.fld hq hC (k := 1) rfl, ?_⟩
      have htl := g2.lenB
      have h0 : Own w2 w2.heap.size T.uint8 1 ⟨none, 0, 0⟩ [] := Own.nil _ _ _ _
      have hroom : (0 : Nat) < 0 + q.2.len → Builtin.nextslicecap (0 + q.2.len) 0 * 1 ≤ 281474976710656 := fun hc => by
        rw [Nat.zero_add, nextcap_zero (by omega)]; omega
      refine appV_own (s := ⟨none, 0, 0⟩) appB h0 (g2.src (B8_one _)) (Nat.le_refl _) hroom fun y1 w5 q1 _ u5 _ => ?_
      rw [List.nil_append] at q1
      refine ⟨_, by omega, j + 1, rfl, by omega, rfl, ?_, e2.tr ((Upd.refl _ w2).own h0 (Nat.le_refl _) u5)⟩
      rw [lastW_next hp, if_pos (by omega)]
      exact q1.mono e2.size
    · refine ⟨_, by omega, j + 1, rfl, by omega, rfl, ?_, e2⟩
      rw [lastW_next hp, if_neg (by omega)]
      exact hx
  · have : j = D.waits.length := by omega
    subst this
    rw [List.take_length] at hx
    exact ⟨hx, rfl, e2⟩
set_option maxRecDepth 100000 in
theorem refDk_Flush.spec (h : RkAt w rb m s A D) (hn : D.waits.length ≤ 2000000) :
    CallT [.one (.int .i64)] Try.prog F.dunnageref04_Disk_Flush [rptr rb] w fun r w' => r = (flushD D).2 ∧ ∃ s', RkTo w w' rb m s s' A (flushD D).1 := by
  refine dunnageref04_Disk_Flush.vc (some ⟨rb, 0, none⟩) w _ ?_
  refine ⟨D.down, h.blk.get 4 rfl, cnd_intro (fun hd => ?_) (fun hd => ?_)⟩
  · rw [flushD, if_pos hd]; exact ⟨rfl, s, h.to⟩
  rw [flushD, if_neg (by rw [hd]; simp)]
  refine CallT.mono (refDk_hit.spec h hd) ?_
  rintro _ w1 ⟨rfl, h1⟩
  have hcode : (cntD D).2 = 0 ∨ (cntD D).2 = 40 := by unfold cntD; split <;> simp
  refine cnd_dec (fun hne => ?_) (fun he => ?_)
  · rw [if_pos hne]; exact ⟨(hcode.resolve_left hne).symm, s, h1⟩
  have he : (cntD D).2 = 0 := Classical.not_not.1 he
  rw [if_neg (by rw [he]; simp)]
  obtain ⟨ck, cw, cf⟩ := cntD_kept D
  generalize hD1 : (cntD D).1 = D1 at *
  have a1 := h1.at_
  refine ⟨fun n x w' => ∃ i : Nat, x = i ∧ i ≤ D.waits.length ∧ n = D.waits.length - i ∧ RkTo w1 w' rb m s s A { D1 with kept := applyW D.kept (D.waits.take i) }, ⟨_, 0, rfl, by omega, rfl, ?_⟩, ?_⟩
  · have : ({ D1 with kept := applyW D.kept (D.waits.take 0) } : DK) = D1 := by rw [List.take_zero, applyW, List.foldl_nil, ← ck]
    rw [this]; exact a1.to
  rintro n _ _ w2 ⟨i, rfl, hi, rfl, h2⟩
  have a2 := h2.at_
  have hsl : s.len = D.waits.length := by obtain ⟨wl, h3, h4⟩ := a2.wait; rw [h3.len, h4.len]; simp only [cw]
  refine ⟨s, a2.blk.get 2 rfl, cnd_dec (fun hlt => ?_) (fun hge => ?_)⟩
  · have hil : i < D.waits.length := by omega
    have hw : IntKind.i64.wrap ((i : Int) + 1) = ((i + 1 : Nat) : Int) := by rw [i64_id] <;> omega
    rw [hw]
    have ed := ext_drew w2
    have a3 := a2.ext ed
    have h23 := h2.post ed
    generalize w2.drew = w3 at *
    obtain ⟨wl, h3, h4⟩ := a3.wait
    have hwl := h4.len
    simp only [cw] at hwl h4
    have hp : D.waits[i]? = some D.waits[i] := List.getElem?_eq_getElem hil
    have hq : wl[i]? = some wl[i] := List.getElem?_eq_getElem (by omega)
    obtain ⟨g1, g2, g3⟩ := h4.at_ i (by omega) hil
    generalize D.waits[i] = p at *
    generalize wl[i] = q at *
    have hpr : p.1 < D.kept.length := h.rng p (List.mem_of_getElem? hp)
    simp only [Int.toNat_natCast]
    refine ⟨some m, a3.blk.get 1 rfl, s, a3.blk.get 2 rfl, by omega, by omega, h3.rd.get (i := i) (by omega) fun C hC => ⟨(q.1 : Int), h3.rd.fld hq hC (k := 0) rfl, s, a3.blk.get 2 rfl, by omega, by omega, ?_⟩⟩
    rw [hC]
    refine ⟨q.2, h3.rd.fld hq hC (k := 1) rfl, ?_⟩
    rw [g1]
    refine a3.mapset (a := p.1) (by simp only [applyW_len]; exact hpr) g2 g3 fun w4 t4 => ?_
    refine ⟨_, by omega, i + 1, rfl, by omega, rfl, ?_⟩
    rw [applyW_take hp]
    exact h23.tr t4
  · have : i = D.waits.length := by omega
    subst this
    rw [List.take_length] at h2 a2
    obtain ⟨g1, g2, g3⟩ := a2.putW (w1 := _) (Upd.refl _ _) (s' := ⟨none, 0, 0⟩) (wl' := []) (ws' := []) (OwnS.nil encWt_len (by decide) _ _ _) (fun b hb => by obtain ⟨A, hA, _⟩ := hb; simp at hA) ⟨rfl, fun i h => by simp at h⟩ (by simp)
    exact ⟨g1, g2, rfl, _, (h1.tr h2).tr g3⟩
set_option maxRecDepth 100000 in
theorem refDk_Crash.spec (h : RkAt w rb m s A D) (hn : D.waits.length ≤ 2000000) {t : SV} {keep : List Bool} (ht : ∀ w', Upd (rfp rb m s) w w' → RdBo w' t keep) :
    CallT [.one (.int .i64)] Try.prog F.dunnageref04_Disk_Crash [rptr rb, .slice t.a t.len t.cap] w fun r w' => r = 0 ∧ ∃ s', RkTo w w' rb m s s' A (crashD D keep) := by
  refine dunnageref04_Disk_Crash.vc (some ⟨rb, 0, none⟩) t w _ ?_
  have htl := (ht w (Upd.refl _ _)).len
  obtain ⟨g1, g2, h1⟩ := h.put 4 (.bool true) { D with down := true } (by decide) rfl rfl rfl h.arm
  refine ⟨g1, g2, ?_⟩
  generalize w.setCell (Addr.add ⟨rb, 0, none⟩ 4) (.bool true) = w1 at h1 ⊢
  refine ⟨fun n x w' => ∃ i : Nat, x = i ∧ i ≤ D.waits.length ∧ n = D.waits.length - i ∧ RkTo w w' rb m s s A { D with down := true, kept := applyW D.kept (keepW (D.waits.take i) keep) }, ⟨_, 0, rfl, by omega, rfl, h1⟩, ?_⟩
  rintro n _ _ w2 ⟨i, rfl, hi, rfl, h2⟩
  have a2 := h2.at_
  have hsl : s.len = D.waits.length := by obtain ⟨wl, h3, h4⟩ := a2.wait; rw [h3.len, h4.len]
  refine ⟨s, a2.blk.get 2 rfl, cnd_dec (fun hlt => ?_) (fun hge => ?_)⟩
  · have hil : i < D.waits.length := by omega
    have hp : D.waits[i]? = some D.waits[i] := List.getElem?_eq_getElem hil
    have hw : IntKind.i64.wrap ((i : Int) + 1) = ((i + 1 : Nat) : Int) := by rw [i64_id] <;> omega
    rw [hw]
    have ht2 : RdBo w2 t keep := ht w2 h2.u
    simp only [Int.toNat_natCast]
    refine ⟨fun x w' => w2 = w' ∧ x = keep.getD i false, ?_, ?_⟩
    · refine cnd_dec (fun hlt2 => ?_) (fun hge2 => ⟨rfl, ?_⟩)
      · have hik : i < keep.length := by omega
        have hy : keep[i]? = some keep[i] := List.getElem?_eq_getElem hik
        refine ⟨by omega, by omega, ht2.get hik fun A' hA' => ⟨keep[i], ?_, rfl, ?_⟩⟩
        · exact (ht2.at_ hy hA') 0 _ rfl
        · rw [List.getD_eq_getElem?_getD, hy]; rfl
      · rw [List.getD_eq_getElem?_getD, List.getElem?_eq_none (by omega)]; rfl
    · rintro _ _ _ ⟨rfl, rfl⟩
      have hq0 := hp
      generalize D.waits[i] = p at hp
      have hD : ∀ b, keep.getD i false = b → applyW D.kept (keepW (D.waits.take (i + 1)) keep) = if b = true then (applyW D.kept (keepW (D.waits.take i) keep)).set p.1 p.2 else applyW D.kept (keepW (D.waits.take i) keep) := by
        intro b hb
        rw [keepW_take hp, hb]
        cases b
        · simp
        · simp [applyW_snoc]
      refine cnd_intro (fun htr => ?_) (fun hfa => ?_)
      · have ed := ext_drew w2
        have a3 := a2.ext ed
        have h23 := h2.post ed
        generalize w2.drew = w3 at *
        obtain ⟨wl, h3, h4⟩ := a3.wait
        have hwl := h4.len
        simp only at hwl h4
        have hq : wl[i]? = some wl[i] := List.getElem?_eq_getElem (by omega)
        obtain ⟨g1, g2, g3⟩ := h4.at_ i (by omega) hil
        rw [getElem_of hp hil] at g1 g2
        generalize wl[i] = q at *
        have hpr : p.1 < D.kept.length := h.rng p (List.mem_of_getElem? hp)
        refine ⟨some m, a3.blk.get 1 rfl, s, a3.blk.get 2 rfl, by omega, by omega, h3.rd.get (i := i) (by omega) fun C hC => ⟨(q.1 : Int), h3.rd.fld hq hC (k := 0) rfl, s, a3.blk.get 2 rfl, by omega, by omega, ?_⟩⟩
        rw [hC]
        refine ⟨q.2, h3.rd.fld hq hC (k := 1) rfl, ?_⟩
        rw [g1]
        refine a3.mapset (a := p.1) (by simp only [applyW_len]; exact hpr) g2 g3 fun w4 t4 => ?_
        refine ⟨_, by omega, i + 1, rfl, by omega, rfl, ?_⟩
        rw [hD true htr, if_pos rfl]
        exact h23.tr t4
      · refine ⟨D.waits.length - (i + 1), by omega, i + 1, rfl, by omega, rfl, ?_⟩
        rw [hD false hfa, if_neg (by simp)]
        exact h2
  · have : i = D.waits.length := by omega
    subst this
    rw [List.take_length] at h2 a2
    obtain ⟨g1, g2, g3⟩ := a2.putW (w1 := _) (Upd.refl _ _) (s' := ⟨none, 0, 0⟩) (wl' := []) (ws' := []) (OwnS.nil encWt_len (by decide) _ _ _) (fun b hb => by obtain ⟨A, hA, _⟩ := hb; simp at hA) ⟨rfl, fun i h => by simp at h⟩ (by simp)
    exact ⟨g1, g2, rfl, _, h2.tr g3⟩
set_option maxRecDepth 100000 in
theorem refDk_Flip.spec (h : RkAt w rb m s A D) (hf : D.flips ≤ 1000000) (at_ bit : Int) :
    CallT [.one (.int .i64)] Try.prog F.dunnageref04_Disk_Flip [rptr rb, .int .i64 at_, .int .i64 bit] w fun r w' => r = (flipD D at_ bit).2 ∧ RkTo w w' rb m s s A (flipD D at_ bit).1 := by
  refine dunnageref04_Disk_Flip.vc (some ⟨rb, 0, none⟩) at_ bit w _ ?_
  have bad : (¬ (0 ≤ at_ ∧ at_ < D.kept.length) ∨ bit < 0 ∨ 4096 ≤ bit) → (1 : Int) = (flipD D at_ bit).2 ∧ RkTo w w rb m s s A (flipD D at_ bit).1 := fun hb => by
    rw [flipD, if_pos hb]; exact ⟨rfl, h.to⟩
  refine ⟨fun _ w' => w = w' ∧ (0 ≤ at_ ∧ at_ < D.kept.length) ∧ 0 ≤ bit ∧ bit < 4096, cnd_dec (fun g => bad (.inl (by omega))) fun g1 => ⟨(D.kept.length : Int), h.blk.get 0 rfl, cnd_dec (fun g => bad (.inl (by omega))) fun g2 => cnd_dec (fun g => bad (.inr (.inl g))) fun g3 => cnd_dec (fun g => bad (.inr (.inr (by omega)))) fun g4 => ⟨rfl, by omega, by omega, by omega⟩⟩, ?_⟩
  rintro _ _ _ ⟨rfl, hat, hb0, hb1⟩
  clear bad
  obtain ⟨i, rfl⟩ : ∃ i : Nat, at_ = i := ⟨at_.toNat, by omega⟩
  obtain ⟨b, rfl⟩ : ∃ b : Nat, bit = b := ⟨bit.toNat, by omega⟩
  rw [flipD, if_neg (by omega)]
  have hil : i < D.kept.length := by omega
  refine CallT.mono (refDk_kept.spec h hil) ?_
  rintro o w1 ⟨ho, e1⟩
  have h1 := h.ext e1
  have hq : IntKind.i64.wrap ((b : Int).tdiv 8) = ((b / 8 : Nat) : Int) := by
    rw [Int.tdiv_eq_ediv_of_nonneg (by omega), i64_id (by omega) (by omega)]; omega
  have hm : IntKind.u64.wrap ((b : Int).tmod 8) = ((b % 8 : Nat) : Int) := by rw [Int.tmod_eq_emod_of_nonneg (by omega), u64_id (by omega) (by omega)]; omega
  rw [hq, hm]
  simp only [Int.toNat_natCast, Nat.mul_one]
  generalize hx : D.kept.getD i zeroSec = x at *
  have hol := ho.lenB
  have hxl := x.2
  have hoS := ownB_cells ho
  have h8 : b / 8 < x.1.length := by omega
  have hxg : x.1[b / 8]? = some (x.1.getD (b / 8) 0) := by rw [List.getElem?_eq_getElem h8, List.getD_eq_getElem?_getD, List.getElem?_eq_getElem h8]; rfl
  refine ⟨by omega, by omega, hoS.rd.get h8 fun C hC => ⟨((x.1.getD (b / 8) 0).toNat : Int), ?_, by omega, by omega, by omega, ?_⟩⟩
  · have := hoS.rd.at_ hxg hC 0 _ rfl; rwa [Nat.mul_one, add_zero'] at this
  obtain ⟨oa, ol, oc⟩ := o
  obtain rfl : oa = some C := hC
  rw [bit_xor (by omega)]
  obtain ⟨c1, c2, c3, c4, c5⟩ := hoS.setf hxg rfl (k := 0) (by omega) (v := .int .u8 ((x.1.getD (b / 8) 0 ^^^ UInt8.ofNat (2 ^ (b % 8))).toNat : Int)) (y := x.1.getD (b / 8) 0 ^^^ bitB b) rfl
  rw [Nat.mul_one, add_zero'] at c1 c2 c3 c4 c5
  refine ⟨c1, c2, ?_⟩
  generalize w1.setCell (C.add (b / 8)) (.int .u8 ((x.1.getD (b / 8) 0 ^^^ UInt8.ofNat (2 ^ (b % 8))).toNat : Int)) = w2 at c3 c4 c5 ⊢
  have hoB := c3.bytes
  have e2 : Ext w w2 := e1.trans c5 fun b hb hs => by have := ho.blk_ge hs; omega
  have a2 := h.ext e2
  refine ⟨some m, a2.blk.get 1 rfl, a2.mapset (a := i) hil (y := flipS x b) hoB.rd (fun c hc => ⟨hoB.blk_lt hc, fun g => ?_⟩) fun w3 t3 => ?_⟩
  · have := ho.blk_ge hc
    rcases g with g | g
    · have := h.lt g; omega
    · have := h.al c g; omega
  obtain ⟨k1, k2, k3⟩ := t3.at_.put 5 (.int .i64 ((D.flips + 1 : Nat) : Int)) { D with kept := D.kept.set i (flipS x b), flips := D.flips + 1 } (by decide) rfl rfl rfl h.arm
  have hw : IntKind.i64.wrap ((D.flips : Int) + 1) = ((D.flips + 1 : Nat) : Int) := by rw [i64_id] <;> omega
  refine ⟨(D.flips : Int), t3.at_.blk.get 5 rfl, k1, k2, trivial, ?_⟩
  rw [hw]
  exact RkTo.pre e2 (t3.tr k3)
theorem refDk_New.spec (n : Int) (w : World) : CallT [.one .ptr, .one (.int .i64)] Try.prog F.dunnageref04_New [.int .i64 n] w fun r w' =>
    Ext w w' ∧ ((n < 1 ∨ n > 65536) ∧ r = (none, 1) ∨ (1 ≤ n ∧ n ≤ 65536) ∧ ∃ rb m s, r = (some ⟨rb, 0, none⟩, 0) ∧ (∀ A : Nat → Prop, (∀ b, A b → b < w.heap.size) → RkAt w' rb m s A (newD n.toNat)) ∧ ∀ b, rfp rb m s b → w.heap.size ≤ b) := by
  refine dunnageref04_New.vc n w _ ?_
  refine cnd_dec (fun h => ⟨Upd.refl _ _, .inl ⟨.inl h, rfl⟩⟩) (fun h1 => cnd_dec (fun h => ⟨Upd.refl _ _, .inl ⟨.inr h, rfl⟩⟩) (fun h2 => mkMV_new ?_))
  have hM := MapIs.empty w (.int .i64)
  have e1 := ext_alloc w (.map #[] 0)
  have z1 : (w.alloc (.map #[] 0)).heap.size = w.heap.size + 1 := by simp
  generalize w.alloc (.map #[] 0) = w1 at *
  have hvs : (#[.int .i64 n, .map (some w.heap.size), .slice none 0 0, .int .i64 0, .bool false, .int .i64 0] : Array Value) = (rkVs w.heap.size ⟨none, 0, 0⟩ (newD n.toNat)).toArray := by
    have : ((List.replicate n.toNat zeroSec).length : Int) = n := by rw [List.length_replicate]; omega
    simp only [rkVs, newD, this]; rfl
  rw [hvs]
  have hb := BK.new w1 T.dunnageref04_Disk (rkVs w.heap.size ⟨none, 0, 0⟩ (newD n.toNat))
  have e2 := ext_alloc w1 (.cells (rkVs w.heap.size ⟨none, 0, 0⟩ (newD n.toNat)).toArray T.dunnageref04_Disk)
  generalize w1.alloc _ = w2 at *
  have hnil : ∀ b, ¬ SV.blk ⟨none, 0, 0⟩ b := by rintro b ⟨A, hA, hb⟩; simp at hA
  refine ⟨e1.tr e2, .inr ⟨⟨by omega, by omega⟩, w1.heap.size, w.heap.size, ⟨none, 0, 0⟩, rfl, fun A hA => ⟨hb, ⟨_, hM.ext e2, fun i hi => .inr ⟨rfl, ?_⟩⟩, ⟨[], OwnS.nil encWt_len (by decide) _ _ _, ⟨rfl, fun i h => by simp at h⟩⟩, by omega, hnil _, hnil _, ?_, by simp [newD], by simp [newD]; omega, by simp [newD], fun b hb => ?_⟩, ?_⟩⟩
  · simp only [newD, List.getD_eq_getElem?_getD, List.getElem?_replicate]; split <;> rfl
  · rintro b (rfl | rfl | hb) hAb
    · have := hA _ hAb; omega
    · have := hA _ hAb; omega
    · exact hnil _ hb
  · have := hA b hb; have := e2.size; omega
  · rintro b (rfl | rfl | hb)
    · omega
    · exact Nat.le_refl _
    · exact absurd hb (hnil _)
end Go.Proofs
/- The conditions of the seat's functions, written by a program (VcTool, genvc.py) off 'vc' reduced; each is tied to 'vc' by the kernel. Conditions: none. -/
set_option linter.unusedVariables false
set_option maxRecDepth 100000
namespace Go.Proofs
open Go Go.Vc
/-- dunnage/dunnagehelp.Same[bool] -/
theorem dunnagehelp_Same_bool.vc (s0 : SV) (s1 : SV) (v2 : Value) (w : World) (R : Bool → World → Prop)
  (h : cnd ((↑s0.len : Int) != (↑s1.len : Int)) (R false w)
      (∃ (I : Nat → Int → World → Prop),
        (∃ (n : Nat), I n (0 : Int) w) ∧
          ∀ (n : Nat) (x : Int) (j : Nat → Value) (w' : World),
            I n x w' →
              cnd (decide (x < (↑s0.len : Int)))
                ((0 : Int) ≤ x ∧
                  x < (↑s0.len : Int) ∧
                    onP s0.a fun (A : Addr) =>
                      ∃ (x_1 : Bool),
                        w'.drew.cell? (A.add (x.toNat * (1 : Nat))) = some (Value.bool x_1) ∧
                          (0 : Int) ≤ x ∧
                            x < (↑s1.len : Int) ∧
                              onP s1.a fun (A : Addr) =>
                                ∃ (x_2 : Bool),
                                  w'.drew.cell? (A.add (x.toNat * (1 : Nat))) = some (Value.bool x_2) ∧
                                    callVal [Ty.one Sh.bool] Try.prog v2 [Value.bool x_1, Value.bool x_2] w'.drew
                                      fun (x_3 : Bool) (w' : World) =>
                                      cnd (!x_3) (R false w')
                                        (∃ (m : Nat), m < n ∧ I m (IntKind.i64.wrap (x + (1 : Int))) w'))
                (R true w')))
  : CallT [Ty.one Sh.bool] Try.prog 186 [Value.slice s0.a s0.len s0.cap, Value.slice s1.a s1.len s1.cap, v2] w R :=
  fnV_sound (h := HT.z.sq
  (HT.z.sq
    ((HT.z.sq
          (HT.lp [((7 : Nat), Ty.one (Sh.int IntKind.i64))] (HT.z.sq (((HT.rg (9 : Nat)).sq HT.z).bl.sq HT.z))).bl).sq
      HT.z))) Try.func186 (by kernel_rfl) (by kernel_rfl) (Eq.mp (by kernel_rfl) h)

/-- dunnage/dunnagehelp.Plain[bool]$1 -/
theorem dunnagehelp_Plain_bool_1.vc (b0 : Bool) (b1 : Bool) (w : World) (R : Bool → World → Prop)
  (h : R (b0 == b1) w)
  : CallT [Ty.one Sh.bool] Try.prog 187 [Value.bool b0, Value.bool b1] w R :=
  fnV_sound (h := HT.z) Try.func187 (by kernel_rfl) (by kernel_rfl) (Eq.mp (by kernel_rfl) h)

end Go.Proofs
/- dunnagehelp over bools: Own, Plain, Kept. Conditions: those of each contract. -/
namespace Go.Proofs
open Go Go.Vc
@[reducible] def encBo (b : Bool) : List Value := [Value.bool b]
def BoL (l : List Bool) : List Value := l.flatMap encBo
theorem encBo_len (b : Bool) : (encBo b).length = 1 := rfl
theorem BoL_length (l : List Bool) : (BoL l).length = l.length := by rw [BoL, flat_len encBo_len, Nat.mul_one]
theorem BoL_one (l : List Bool) : ∀ v ∈ BoL l, v.oneCell' = true := by
  intro v hv
  obtain ⟨b, _, hb⟩ := List.mem_flatMap.1 hv
  obtain rfl := by simpa using hb
  rfl
theorem appBo : AppT Try.prog [T.sl_bool, T.sl_bool] T.bool 1 1 [.bool false] :=
  ⟨⟨T.sl_bool, rfl, by kernel_rfl⟩, ⟨T.sl_bool, _, rfl, by kernel_rfl, .inr ⟨T.bool, rfl⟩⟩, by kernel_rfl, by kernel_rfl, by decide, by kernel_rfl, rfl, by decide⟩
theorem bo_z : zeroL Try.prog T.bool = some [.bool false] := by kernel_rfl
theorem sl_bo : Try.prog.underlying T.sl_bool = some (.slice T.bool) := by kernel_rfl
theorem dunnagehelp_Own_bool.spec {w : World} {s : SV} {l : List Bool} (hs : RdBo w s l) (hl : l.length ≤ 140737488351232) (c : Bool) :
    CallT [.one .slice] Try.prog F.dunnagehelp_Own_bool [.slice s.a s.len s.cap, .bool c] w fun o w' =>
      o.len = l.length ∧ o.cap = l.length + 3 ∧ Ext w w' ∧ ∃ b, Spare w' w.heap.size T.bool 1 o b (BoL l) [.bool c, .bool c, .bool c] := by
  have hlen := hs.len
  have h3 : IntKind.i64.wrap ((s.len : Int) + 3) = ((l.length + 3 : Nat) : Int) := by rw [i64_id] <;> omega
  refine dunnagehelp_Own_bool.vc s c w _ ?_
  rw [h3]
  refine mkSV_own (bt := 1) (sz := 1) sl_bo (by kernel_rfl) (by kernel_rfl) bo_z rfl (by omega) (by omega) (by omega) (by omega) ?_
  rw [show (Int.toNat 0) = 0 from rfl, Int.toNat_natCast, reps_eq]
  have h0 : Spare (w.alloc (.cells (List.replicate (l.length + 3) (Value.bool false)).toArray T.bool)) w.heap.size T.bool 1 ⟨some ⟨w.heap.size, 0, none⟩, 0, l.length + 3⟩ w.heap.size [] (List.replicate (l.length + 3) (.bool false)) :=
    ⟨rfl, Nat.le_refl _, blk_new _ _, rfl, by simp⟩
  have hr : Rd w 1 s (BoL l) := hs.rd
  refine appV_fit appBo h0 ((hr.ext (ext_alloc _ _)).src (BoL_one _)) (by simp only; omega) ?_
  intro w1 h1 hu
  have he1 : Ext w w1 := (ext_alloc w _).trans hu fun x hx e => by omega
  simp only [List.nil_append, Nat.zero_add, List.drop_replicate, BoL_length, show l.length + 3 - l.length = 3 by omega] at h1 ⊢
  rw [hlen] at h1 ⊢
  have hw : IntKind.i64.wrap ((l.length : Int) + 3) = ((l.length + 3 : Nat) : Int) := by rw [i64_id] <;> omega
  simp only [Nat.sub_zero]
  refine ⟨by omega, by omega, fun n x w' => ∃ k : Nat, k ≤ 3 ∧ x = ((l.length + k : Nat) : Int) ∧ n = 3 - k ∧ Ext w w' ∧
      w'.heap[w.heap.size]? = some (.cells (BoL l ++ (List.replicate k (Value.bool c) ++ List.replicate (3 - k) (Value.bool false))).toArray T.bool (0, 0)), ⟨_, 0, by omega, rfl, rfl, he1, h1.blk⟩, ?_⟩
  rintro n x j w' ⟨k, hk, rfl, rfl, he, hb⟩
  refine cnd_dec (fun hlt => ?_) (fun hge => ?_)
  · have hk3 : k < 3 := by omega
    simp only [subA_zero, onP_some, Int.toNat_natCast, Nat.mul_one, add_mk, Nat.zero_add]
    refine ⟨by omega, by omega, ?_⟩
    rw [cell_blk hb, frozen_blk hb]
    refine ⟨?_, rfl, 3 - (k + 1), by omega, k + 1, by omega, by rw [i64_id] <;> omega, rfl, ?_, ?_⟩
    · simp [BoL_length]; omega
    · exact he.set (p := ⟨w.heap.size, l.length + k, none⟩) (fun h => by simp at h) _
    · rw [blk_set hb]
      have := set_rep (BoL l) (Value.bool c) (Value.bool false) 3 k hk3
      rw [BoL_length] at this
      simp [this]
  · have hk3 : k = 3 := by omega
    subst hk3
    exact ⟨trivial, trivial, he, _, ⟨rfl, Nat.le_refl _, hb, by simp [BoL_length], by simp [BoL_length]⟩⟩
theorem dunnagehelp_Plain_bool.spec {a b : SV} {x y : List Bool} {w : World} (ha : RdBo w a x) (hb : RdBo w b y) (hx : x.length < 2 ^ 62) :
    CallT [.one .bool] Try.prog F.dunnagehelp_Plain_bool [.slice a.a a.len a.cap, .slice b.a b.len b.cap] w fun r w' => r = (x == y) ∧ Ext w w' := by
  refine dunnagehelp_Plain_bool.vc a b w _ (dunnagehelp_Same_bool.vc a b _ w _ ?_)
  have hal := ha.len
  have hbl := hb.len
  refine cnd_bne (fun hne => ?_) (fun he => ?_)
  · have : x ≠ y := fun e => hne (by rw [hal, hbl, e])
    exact ⟨by simp [this], Upd.refl _ _⟩
  have hxy : x.length = y.length := by omega
  refine ⟨fun n i w' => ∃ k : Nat, i = k ∧ k ≤ x.length ∧ n = x.length - k ∧ Ext w w' ∧ x.take k = y.take k, ⟨_, 0, rfl, by omega, rfl, Upd.refl _ _, rfl⟩, ?_⟩
  rintro n i j w' ⟨k, rfl, hk, rfl, hu, hq⟩
  refine cnd_dec (fun hlt => ?_) (fun hge => ?_)
  · have hkx : k < x.length := by omega
    have hky : k < y.length := by omega
    have hw : Ext w w'.drew := hu.drew
    refine ⟨by omega, by omega, ha.get hkx fun A hA => ⟨x[k], (ha.ext hw).at_ (List.getElem?_eq_getElem hkx) hA 0 _ rfl, by omega, by omega,
      hb.get hky fun B hB => ⟨y[k], (hb.ext hw).at_ (List.getElem?_eq_getElem hky) hB 0 _ rfl, dunnagehelp_Plain_bool_1.vc _ _ _ _ ?_⟩⟩⟩
    refine cnd_not (fun hf => ?_) (fun ht => ?_)
    · refine ⟨?_, hw⟩
      have : x ≠ y := by
        rintro rfl
        simp at hf
      simp [this]
    · have hb : x[k] = y[k] := beq_iff_eq.1 ht
      refine ⟨_, ?_, k + 1, by rw [i64_id] <;> omega, by omega, rfl, hw, ?_⟩
      · omega
      · rw [List.take_add_one, List.take_add_one, hq, List.getElem?_eq_getElem hkx, List.getElem?_eq_getElem hky, hb]
  · have hk2 : k = x.length := by omega
    subst hk2
    rw [List.take_length, List.take_of_length_le (by omega)] at hq
    exact ⟨by simp [hq], hu⟩
theorem dunnagehelp_Kept_bool.spec {o b : SV} {x y : List Bool} {w : World} {B g : Nat} {c : Bool} (ho : Spare w B T.bool 1 o g (BoL x) [.bool c, .bool c, .bool c]) (hb : RdBo w b y) (hx : x.length < 2 ^ 62) :
    CallT [.one .bool] Try.prog F.dunnagehelp_Kept_bool [.slice o.a o.len o.cap, .slice b.a b.len b.cap, .bool c] w fun r w' => r = (x == y) ∧ Ext w w' := by
  refine dunnagehelp_Kept_bool.vc o b c w _ ?_
  have hBl := BoL_length x
  have hol : o.len = x.length := by have := ho.len; rw [BoL_length, Nat.mul_one] at this; exact this.symm
  have hoc : o.cap = x.length + 3 := by have := ho.cap; rw [List.length_append, BoL_length] at this; simp at this; omega
  have hbl := hb.len
  refine ⟨fun _ w' => x = y ∧ Ext w w', ?_, ?_⟩
  · refine CallT.mono (dunnagehelp_Plain_bool.spec (x := x) ⟨ho.rd, encBo_len, by decide⟩ hb hx) ?_
    rintro _ w1 ⟨rfl, he⟩
    refine cnd_not (fun hf => ⟨hf.symm, he⟩) (fun ht => ?_)
    have hxy : x = y := by simpa using ht
    subst hxy
    refine cnd_dec (fun hlt => ?_) (fun _ => ⟨rfl, he⟩)
    rw [i64_id] at hlt <;> omega
  · rintro _ j w1 ⟨rfl, he⟩
    have h3 : IntKind.i64.wrap ((b.len : Int) + 3) = ((x.length + 3 : Nat) : Int) := by rw [i64_id] <;> omega
    rw [h3]
    refine ⟨by omega, by omega, fun n i w' => ∃ k : Nat, i = ((x.length + k : Nat) : Int) ∧ n = 3 - k ∧ w' = w1, ⟨_, 0, by rw [hbl]; rfl, rfl, rfl⟩, ?_⟩
    rintro n i j w' ⟨k, rfl, rfl, rfl⟩
    simp only [Int.toNat_natCast, Nat.sub_zero, subA_zero]
    refine cnd_dec (fun hlt => ?_) (fun hge => ⟨by simp, he⟩)
    have hk3 : k < 3 := by omega
    have hbk := (ho.ext he).blk
    rw [ho.a]
    refine ⟨by omega, by omega, c, ?_, ?_⟩
    · rw [add_mk, cell_blk hbk]
      simp only [Nat.zero_add, Nat.mul_one, List.getElem?_toArray]
      rw [← hBl, List.getElem?_append_right (by omega), show (BoL x).length + k - (BoL x).length = k by omega]
      match k, hk3 with
      | 0, _ => rfl
      | 1, _ => rfl
      | 2, _ => rfl
    · have hcc : (!c == c) = false := by cases c <;> rfl
      rw [hcc]
      exact cnd_false ⟨_, by omega, k + 1, by rw [i64_id] <;> omega, rfl, trivial⟩
end Go.Proofs
/- dunnagelaw04.DiskPlays: the disk and the document's disk, side by side. Conditions: the script is readable. -/
namespace Go.Proofs
open Go Go.Vc
/-- The disk and the document's, apart, with the same in them. -/
structure Pair (w0 w : World) (d : Nat) (k s : SV) (rb m : Nat) (s2 : SV) (D : DK) : Prop where
  e : Ext w0 w
  dk : DkAt w d k s D
  rk : RkAt w rb m s2 (fp d k s) D
  n1 : ∀ b, fp d k s b → w0.heap.size ≤ b
  n2 : ∀ b, rfp rb m s2 b → w0.heap.size ≤ b
section
variable {w0 w w1 w2 : World} {d rb m : Nat} {k s s' s2 s2' : SV} {D D' : DK}
theorem Pair.ext (h : Pair w0 w d k s rb m s2 D) (e : Ext w w1) : Pair w0 w1 d k s rb m s2 D := ⟨h.e.tr e, h.dk.ext e, h.rk.ext e, h.n1, h.n2⟩
theorem Pair.half (h : Pair w0 w d k s rb m s2 D) (t : DkTo w w1 d k s s' D') : RkAt w1 rb m s2 (fp d k s') D :=
  h.rk.env t.u (fun _ hb => t.fp' hb) fun _ hb => t.at_.lt hb
theorem Pair.fin (h : Pair w0 w d k s rb m s2 D) (t : DkTo w w1 d k s s' D') (g : RkTo w1 w2 rb m s2 s2' (fp d k s') D') : Pair w0 w2 d k s' rb m s2' D' := by
  have z := h.e.size
  have z1 := t.u.size
  have e1 : Ext w0 w1 := t.ext_of h.e h.n1
  have hr := h.half t
  refine ⟨e1.trans g.u fun x hx hb => by have := h.n2 x hb; omega, t.at_.upd g.u fun b hb hr2 => hr.fa b hr2 hb, g.at_, fun b hb => ?_, fun b hb => ?_⟩
  · rcases t.fp' hb with h1 | h1
    · exact h.n1 b h1
    · omega
  · rcases hb with rfl | rfl | hb
    · exact h.n2 _ (.inl rfl)
    · exact h.n2 _ (.inr (.inl rfl))
    · rcases g.n b hb with h1 | h1
      · exact h.n2 _ (.inr (.inr h1))
      · omega
end
theorem readD_len (D : DK) (a : Int) : (readD D a).1.length ≤ 512 := by
  unfold readD
  split
  · simp
  split
  · simp
  · rw [(showD D a.toNat).2]; exact Nat.le_refl _
set_option maxRecDepth 100000 in
theorem dunnagelaw04_step.spec {w0 w : World} {d rb m : Nat} {k s s2 : SV} {D : DK} (h : Pair w0 w d k s rb m s2 D) {o : OpV} (hok : RdBo w0 o.s o.keep ∧ (-9223372036854775808 ≤ o.n ∧ o.n ≤ 9223372036854775807) ∧ -9223372036854775808 ≤ o.at_ ∧ o.at_ ≤ 9223372036854775807)
    (hkl : o.keep.length ≤ 140737488351232) (hn : D.waits.length ≤ 1000) (hf : D.flips ≤ 1000) :
    CallT [.one .bool] Try.prog F.dunnagelaw04_step [dptr d, rptr rb, .agg (encOp o).toArray] w fun r w' => r = true ∧ ∃ s' s2', Pair w0 w' d k s' rb m s2' (stepD D o) := by
  refine dunnagelaw04_step.vc (some ⟨d, 0, none⟩) (some ⟨rb, 0, none⟩) (o.kind, o.at_, o.n, (o.v.toNat : Int), o.short, o.s) w _ ?_
  intro w1
  obtain ⟨b1, e1, z1⟩ := bk_new (T := T.dunnagelaw04_Op) (vs := encOp o) (w1 := w) (w2 := w1) rfl
  clear_value w1
  have h1 := h.ext e1
  have bL := b1.lt
  obtain ⟨hkeep, hnr, hat⟩ := hok
  have ne1 : ∀ b, fp d k s b → b ≠ w.heap.size := fun b hb he => by have := h.dk.lt hb; omega
  have ne2 : ∀ b, rfp rb m s2 b → b ≠ w.heap.size := fun b hb he => by have := h.rk.lt hb; omega
  refine ⟨o.kind, b1.get 0 rfl, cnd_beq (fun k1 => ?_) (fun k1 => cnd_beq (fun k2 => ?_) (fun k2 => cnd_beq (fun k3 => ?_) (fun k3 => cnd_beq (fun k4 => ?_) (fun k4 => cnd_beq (fun k5 => ?_) (fun k5 => cnd_beq (fun k6 => ?_) (fun k6 => ?_))))))⟩
  · refine ⟨o.at_, b1.get 1 rfl, CallT.mono (disk_Read.spec h1.dk (by omega) o.at_) ?_⟩
    rintro ⟨x, c⟩ w2 ⟨hx, hc, e2⟩
    have h2 := h1.ext e2
    dsimp only at hx hc ⊢
    refine ⟨o.at_, (b1.ext e2).get 1 rfl, CallT.mono (refDk_Read.spec h2.rk (by omega) o.at_) ?_⟩
    rintro ⟨y, c'⟩ w3 ⟨hy, hc', e3⟩
    have h3 := h2.ext e3
    dsimp only at hy hc' ⊢
    refine CallT.mono (dunnagehelp_Bytes.spec (hx.ext e3).rd hy.rd) ?_
    rintro _ _ ⟨rfl, rfl⟩
    have hs : stepD D o = D := by rw [stepD, if_pos k1]
    rw [hs]
    refine cnd_pos (by simp) ⟨by rw [hc, hc']; simp, s, s2, h3⟩
  · refine CallT.mono (disk_Flush.spec h1.dk (by omega)) ?_
    rintro _ w2 ⟨rfl, s', t2⟩
    refine CallT.mono (refDk_Flush.spec (h1.half t2) (by omega)) ?_
    rintro _ w3 ⟨rfl, s2', t3⟩
    have hs : stepD D o = (flushD D).1 := by rw [stepD, if_neg k1, if_pos k2]
    rw [hs]
    exact ⟨by simp, s', s2', h1.fin t2 t3⟩
  · have ed := ext_drew w1
    refine ⟨fun v => BK v w.heap.size T.dunnagelaw04_Op (encOp o), b1.ext ed, o.n, fun v hv => hv.get 2 rfl, o.n, fun v hv => hv.get 2 rfl, ?_⟩
    have h2 := h1.ext ed
    have b2 := b1.ext ed
    generalize w1.drew = w2 at *
    refine CallT.mono (disk_Arm.spec h2.dk hnr.2) ?_
    rintro _ w3 ⟨rfl, t3⟩
    have b3 := b2.upd t3.u fun hb => ne1 _ hb rfl
    refine ⟨b3, CallT.mono (refDk_Arm.spec (h2.half t3) hnr.2) ?_⟩
    rintro _ w4 ⟨rfl, t4⟩
    have hs : stepD D o = (armD D o.n).1 := by rw [stepD, if_neg k1, if_neg k2, if_pos k3]
    rw [hs]
    exact ⟨b3.upd t4.u fun hb => ne2 _ hb rfl, by simp, s, s2, h2.fin t3 t4⟩
  · refine ⟨o.s, b1.get 5 rfl, CallT.mono (dunnagehelp_Own_bool.spec (hkeep.ext h1.e) hkl true) ?_⟩
    rintro x w2 ⟨hx1, hx2, e2, g, hx⟩
    have h2 := h1.ext e2
    have b2 := b1.ext e2
    have ed := ext_drew w2
    refine ⟨fun v => BK v w.heap.size T.dunnagelaw04_Op (encOp o), b2.ext ed, o.s, fun v hv => hv.get 5 rfl, ?_⟩
    have h3 := h2.ext ed
    have b3 := b2.ext ed
    have hx3 := hx.ext ed
    have ez := h1.e.size
    have ez2 := e2.size
    have ez3 := ed.size
    have hge := hx.ge
    have gne1 : ∀ b, fp d k s b → b ≠ g := fun b hb he => by have := h1.dk.lt hb; omega
    have gne2 : ∀ b, rfp rb m s2 b → b ≠ g := fun b hb he => by have := h1.rk.lt hb; omega
    generalize w2.drew = w3 at *
    refine CallT.mono (disk_Crash.spec h3.dk (by omega) (t := x) (keep := o.keep) fun w' u => ?_) ?_
    · exact ⟨(hx3.upd u fun hb => gne1 _ hb rfl).rd, encBo_len, by decide⟩
    rintro _ w4 ⟨rfl, s', t4⟩
    have b4 := b3.upd t4.u fun hb => ne1 _ hb rfl
    have e04 : Ext w0 w4 := t4.ext_of h3.e h3.n1
    refine ⟨b4, CallT.mono (refDk_Crash.spec (h3.half t4) (by omega) (t := o.s) (keep := o.keep) fun w' u => ?_) ?_⟩
    · exact hkeep.ext (e04.trans u fun x hx hb => by have := h.n2 x hb; omega)
    rintro _ w5 ⟨rfl, s2', t5⟩
    have b5 := b4.upd t5.u fun hb => ne2 _ hb rfl
    have hF := h3.fin t4 t5
    have hx5 := (hx3.upd t4.u fun hb => gne1 _ hb rfl).upd t5.u fun hb => gne2 _ hb rfl
    refine ⟨b5, cnd_beq (fun _ => ?_) (fun hne => absurd rfl hne)⟩
    refine ⟨o.s, fun v hv => hv.get 5 rfl, CallT.mono (dunnagehelp_Kept_bool.spec hx5 (hkeep.ext hF.e) (by omega)) ?_⟩
    rintro _ w6 ⟨rfl, e6⟩
    have hs : stepD D o = crashD D o.keep := by rw [stepD, if_neg k1, if_neg k2, if_neg k3, if_pos k4]
    rw [hs]
    exact ⟨b5.ext e6, by simp, s', s2', hF.ext e6⟩
  · refine CallT.mono (disk_Start.spec h1.dk) ?_
    rintro _ w2 ⟨rfl, s', t2⟩
    refine CallT.mono (refDk_Start.spec (h1.half t2)) ?_
    rintro _ w3 ⟨rfl, s2', t3⟩
    have hs : stepD D o = startD D := by rw [stepD, if_neg k1, if_neg k2, if_neg k3, if_neg k4, if_pos k5]
    rw [hs]
    exact ⟨by simp, s', s2', h1.fin t2 t3⟩
  · have ed := ext_drew w1
    refine ⟨fun v => BK v w.heap.size T.dunnagelaw04_Op (encOp o), b1.ext ed, o.at_, fun v hv => hv.get 1 rfl, o.n, fun v hv => hv.get 2 rfl, o.at_, fun v hv => hv.get 1 rfl, o.n, fun v hv => hv.get 2 rfl, ?_⟩
    have h2 := h1.ext ed
    have b2 := b1.ext ed
    generalize w1.drew = w2 at *
    refine CallT.mono (disk_Flip.spec h2.dk (by omega) o.at_ o.n) ?_
    rintro _ w3 ⟨rfl, t3⟩
    have b3 := b2.upd t3.u fun hb => ne1 _ hb rfl
    refine ⟨b3, CallT.mono (refDk_Flip.spec (h2.half t3) (by omega) o.at_ o.n) ?_⟩
    rintro _ w4 ⟨rfl, t4⟩
    have hs : stepD D o = (flipD D o.at_ o.n).1 := by rw [stepD, if_neg k1, if_neg k2, if_neg k3, if_neg k4, if_neg k5, if_pos k6]
    rw [hs]
    exact ⟨b3.upd t4.u fun hb => ne2 _ hb rfl, by simp, s, s2, h2.fin t3 t4⟩
  · refine ⟨(o.v.toNat : Int), b1.get 3 rfl, o.short, b1.get 4 rfl, CallT.mono (full04.spec (o.v.toNat : Int) o.short _) ?_⟩
    rintro t w2 ⟨ht, e2⟩
    have hfl : (fullB (o.v.toNat : Int) o.short).length ≤ 512 := by
      unfold fullB
      have := fullL_len (o.v.toNat : Int)
      split
      · rw [List.length_take]; omega
      · omega
    generalize hB : fullB (o.v.toNat : Int) o.short = B at *
    refine CallT.mono (dunnagehelp_Own_byte.spec ht.rd (by omega) 71) ?_
    rintro x w3 ⟨hx1, hx2, e3, g, hx⟩
    have h2 := h1.ext e2
    have h3 := h2.ext e3
    have b3 := (b1.ext e2).ext e3
    have ht3 := ht.ext e3
    have ez2 := e2.size
    have ez3 := e3.size
    have hge := hx.ge
    have glt := hx.lt
    have gne1 : ∀ b, fp d k s b → b ≠ g := fun b hb he => by have := h2.dk.lt hb; omega
    have gne2 : ∀ b, rfp rb m s2 b → b ≠ g := fun b hb he => by have := h2.rk.lt hb; omega
    have tne1 : ∀ b, t.blk b → ¬ fp d k s b := fun b hb hf => by have := ht.blk_ge hb; have := h1.dk.lt hf; omega
    have tne2 : ∀ b, t.blk b → ¬ rfp rb m s2 b := fun b hb hf => by have := ht.blk_ge hb; have := h1.rk.lt hf; omega
    have tneg : ∀ b, t.blk b → b ≠ g := fun b hb he => by have := ht.blk_lt hb; omega
    have xblk : ∀ b, x.blk b → b = g := by
      rintro b ⟨A, hA, rfl⟩
      rw [hx.a] at hA
      obtain rfl := Option.some.inj hA
      rfl
    refine ⟨o.at_, b3.get 1 rfl, CallT.mono (disk_Write.spec h3.dk (by omega) (at_ := o.at_) (t := x) (b := B) hx.rd fun c _ hc hs => gne1 c (.inr (.inr hs)) (xblk c hc)) ?_⟩
    rintro _ w4 ⟨rfl, s', t4⟩
    have b4 := b3.upd t4.u fun hb => ne1 _ hb rfl
    have ht4 := ht3.upd t4.u tne1
    have hx4 := hx.upd t4.u fun hb => gne1 _ hb rfl
    have hr4 := h3.half t4
    have z4 := t4.u.size
    refine CallT.mono (dunnagehelp_Kept_byte.spec (c := 71) hx4 ht4.rd (by omega)) ?_
    rintro _ w5 ⟨rfl, e5⟩
    have hx5 := hx4.ext e5
    refine CallT.mono (dunnagehelp_Spoil.spec (hx5.own (by omega)) (by omega)) ?_
    rintro _ w6 u6
    have u46 : Upd x.blk w4 w6 := (e5.to _).tr u6
    have hsx : ∀ b, fp d k s' b → b ≠ g := fun b hb he => by
      rcases t4.fp' hb with hb | hb
      · exact gne1 b hb he
      · omega
    have hd6 : DkAt w6 d k s' (writeD D o.at_ B).1 := t4.at_.upd u46 fun b hb hc => hsx b hb (xblk b hc)
    have t24 := DkTo.pre e3 t4
    have t6 : DkTo w2 w6 d k s s' (writeD D o.at_ B).1 := ⟨hd6, t24.u.trans u46 fun c hc hb => by have := xblk _ hb; omega, t24.n⟩
    have b6 := b4.upd u46 fun hb => by have := xblk _ hb; omega
    have ht6 := ht4.upd u46 fun b hb hc => tneg b hb (xblk b hc)
    refine ⟨o.at_, b6.get 1 rfl, CallT.mono (refDk_Write.spec (h2.half t6) (by omega) (at_ := o.at_) ht6.rd) ?_⟩
    rintro _ w7 ⟨rfl, s2', t7⟩
    have hs : stepD D o = (writeD D o.at_ B).1 := by rw [stepD, if_neg k1, if_neg k2, if_neg k3, if_neg k4, if_neg k5, if_neg k6, hB]
    rw [hs]
    refine cnd_pos (by simp) ⟨by simp, s', s2', ?_⟩
    exact h2.fin t6 t7
set_option maxRecDepth 100000 in
theorem dunnagelaw04_alike.spec {w0 w : World} {d rb m : Nat} {k s s2 : SV} {D : DK} (h : Pair w0 w d k s rb m s2 D) (hn : D.waits.length ≤ 1000) :
    CallT [.one .bool] Try.prog F.dunnagelaw04_alike [dptr d, rptr rb] w fun r w' => r = true ∧ Pair w0 w' d k s rb m s2 D := by
  refine dunnagelaw04_alike.vc (some ⟨d, 0, none⟩) (some ⟨rb, 0, none⟩) w _ ?_
  have hd := h.ext (ext_drew w)
  have hsl : s2.len = D.waits.length := by obtain ⟨wl, h3, h4⟩ := h.rk.wait; rw [h3.len, h4.len]
  refine ⟨fun _ w' => Pair w0 w' d k s rb m s2 D, ⟨fun v => Pair w0 v d k s rb m s2 D, hd, D.down, fun v hv => hv.rk.blk.get 4 rfl, CallT.mono (disk_Down.spec hd.dk) ?_⟩, ?_⟩
  · rintro _ w1 ⟨rfl, rfl⟩
    refine ⟨hd, cnd_neg (by cases D.down <;> rfl) ⟨s2, fun v hv => hv.rk.blk.get 2 rfl, CallT.mono (disk_Waiting.spec hd.dk) ?_⟩⟩
    rintro _ w1 ⟨rfl, rfl⟩
    refine ⟨hd, cnd_bne (fun hne => absurd (by rw [hsl]) hne) fun _ => ⟨(D.flips : Int), fun v hv => hv.rk.blk.get 5 rfl, CallT.mono (disk_Flips.spec hd.dk) ?_⟩⟩
    rintro _ w1 ⟨rfl, rfl⟩
    refine ⟨hd, cnd_bne (fun hne => absurd rfl hne) fun _ => ⟨(D.kept.length : Int), fun v hv => hv.rk.blk.get 0 rfl, CallT.mono (disk_Size.spec hd.dk) ?_⟩⟩
    rintro _ w1 ⟨rfl, rfl⟩
    exact ⟨hd, cnd_bne (fun hne => absurd rfl hne) fun _ => hd⟩
  rintro _ _ w1 h1
  refine ⟨fun n x w' => ∃ i : Nat, x = i ∧ n = 8 - i ∧ i ≤ 8 ∧ Pair w0 w' d k s rb m s2 D, ⟨_, 0, rfl, rfl, by omega, h1⟩, ?_⟩
  rintro n _ _ w2 ⟨i, rfl, rfl, hi, h2⟩
  refine ⟨fun _ w' => w2 = w' ∧ i < 8, ⟨(D.kept.length : Int), h2.rk.blk.get 0 rfl, cnd_dec (fun _ => cnd_dec (fun hlt => ⟨rfl, by omega⟩) fun _ => ⟨rfl, h2⟩) fun _ => ⟨rfl, h2⟩⟩, ?_⟩
  rintro _ _ _ ⟨rfl, hi8⟩
  refine CallT.mono (disk_Read.spec h2.dk (by omega) (i : Int)) ?_
  rintro ⟨x, c⟩ w3 ⟨hx, hc, e3⟩
  have h3 := h2.ext e3
  refine CallT.mono (refDk_Read.spec h3.rk (by omega) (i : Int)) ?_
  rintro ⟨y, c'⟩ w4 ⟨hy, hc', e4⟩
  have h4 := h3.ext e4
  dsimp only at hx hc hy hc' ⊢
  have hx4 := hx.ext e4
  refine ⟨fun _ w' => w4 = w', CallT.mono (dunnagehelp_Bytes.spec hx4.rd hy.rd) ?_, ?_⟩
  · rintro _ _ ⟨rfl, rfl⟩
    exact cnd_neg (by simp) (cnd_bne (fun hne => absurd (by rw [hc, hc']) hne) fun _ => rfl)
  rintro _ _ _ rfl
  have hrl := readD_len D i
  refine CallT.mono (dunnagehelp_Spoil.spec hx4 (by omega)) ?_
  rintro _ w5 u5
  have hL := h2.dk
  have dis : ∀ b, x.blk b → ¬ fp d k s b ∧ ¬ rfp rb m s2 b := fun b hb => by
    have := hx.blk_ge hb
    refine ⟨fun g => ?_, fun g => ?_⟩
    · have := h2.dk.lt g; omega
    · have := h2.rk.lt g; omega
  have e25 : Ext w2 w5 := (e3.tr e4).trans u5 fun b hb hx' => by have := hx.blk_ge hx'; omega
  exact ⟨8 - (i + 1), by omega, i + 1, by rw [i64_id] <;> omega, rfl, by omega, h2.ext e25⟩
set_option maxRecDepth 100000 in
theorem dunnagelaw04_DiskPlays.spec (n : Int) {w : World} {s1 : SV} {l : List OpV} (hs : RdOps w s1 l) (hk : ∀ o ∈ l, o.keep.length ≤ 140737488351232) :
    CallT [.one .bool] Try.prog F.dunnagelaw04_DiskPlays [.int .i64 n, .slice s1.a s1.len s1.cap] w fun r w' => r = true ∧ Ext w w' := by
  refine dunnagelaw04_DiskPlays.vc n s1 w _ ?_
  refine CallT.mono (disk_New.spec n w) ?_
  rintro r w1 ⟨e1, h1⟩
  refine CallT.mono (refDk_New.spec n w1) ?_
  rintro r2 w2 ⟨e2, h2⟩
  refine ⟨fun _ w' => Ext w2 w', CallT.mono (dunnagelaw04_awake.spec w2) ?_, ?_⟩
  · rintro _ w3 ⟨rfl, e3⟩
    refine cnd_neg rfl ?_
    rcases h1 with ⟨hb, rfl⟩ | ⟨hb, d, k, s, rfl, h1, f1⟩
    · rcases h2 with ⟨_, rfl⟩ | ⟨h, _⟩
      · exact e3
      · omega
    · rcases h2 with ⟨h, _⟩ | ⟨_, rb, m, s2, rfl, h2, f2⟩
      · omega
      · exact e3
  rintro _ _ w3 e3
  rcases h1 with ⟨hb, rfl⟩ | ⟨hb, d, k, s, rfl, h1, f1⟩
  · exact cnd_pos rfl ⟨rfl, (e1.tr e2).tr e3⟩
  rcases h2 with ⟨h, _⟩ | ⟨_, rb, m, s2, rfl, h2, f2⟩
  · omega
  refine cnd_neg rfl ?_
  have hP : Pair w w2 d k s rb m s2 (newD n.toNat) := ⟨e1.tr e2, h1.ext e2, h2 _ fun b hb => h1.lt hb, f1, fun b hb => Nat.le_trans e1.size (f2 b hb)⟩
  have hP3 := hP.ext e3
  have hsl := hs.rd.len
  refine ⟨fun n' x w' => ∃ (i : Nat) (s' s2' : SV), x = i ∧ i ≤ l.length ∧ i ≤ 200 ∧ n' = 200 - i ∧ Pair w w' d k s' rb m s2' (runD (newD n.toNat) (l.take i)), ⟨_, 0, s, s2, rfl, by omega, by omega, rfl, hP3⟩, ?_⟩
  rintro n' _ _ w4 ⟨i, s', s2', rfl, hi, hi2, rfl, h4⟩
  refine ⟨fun _ w' => w4 = w' ∧ i < l.length ∧ i < 200, cnd_dec (fun hlt => cnd_dec (fun hl2 => ⟨rfl, by omega, by omega⟩) (fun hg => ⟨rfl, h4.e⟩)) (fun hg => ⟨rfl, h4.e⟩), ?_⟩
  rintro _ _ _ ⟨rfl, hil, hi1⟩
  have hx : l[i]? = some l[i] := List.getElem?_eq_getElem hil
  have hok := hs.ok l[i] (List.getElem_mem hil)
  have hkl := hk l[i] (List.getElem_mem hil)
  generalize l[i] = o at hx hok hkl
  have hs4 := hs.rd.ext h4.e
  obtain ⟨q1, q2, q3⟩ := runD_le (l.take i) (newD n.toNat)
  have hlt : (l.take i).length = i := by rw [List.length_take]; omega
  rw [hlt] at q2 q3
  have q2' : (runD (newD n.toNat) (l.take i)).waits.length ≤ i := by simpa [newD] using q2
  have q3' : (runD (newD n.toNat) (l.take i)).flips ≤ i := by simpa [newD] using q3
  have hw : IntKind.i64.wrap ((i : Int) + 1) = ((i + 1 : Nat) : Int) := by rw [i64_id] <;> omega
  have hrun : runD (newD n.toNat) (l.take (i + 1)) = stepD (runD (newD n.toNat) (l.take i)) o := by rw [List.take_add_one, hx, Option.toList_some, runD_snoc]
  refine ⟨by omega, by omega, hs4.get (i := i) hil fun A hA => ⟨(o.kind, o.at_, o.n, (o.v.toNat : Int), o.short, o.s), ?_, ?_⟩⟩
  · rw [Int.toNat_natCast]; exact hs4.at_ hx hA
  refine CallT.mono (dunnagelaw04_step.spec h4 hok hkl (by omega) (by omega)) ?_
  rintro _ w5 ⟨rfl, s5, s25, h5⟩
  refine cnd_neg rfl ?_
  obtain ⟨r1, r2, r3⟩ := runD_le (l.take (i + 1)) (newD n.toNat)
  have hlt1 : (l.take (i + 1)).length ≤ i + 1 := by rw [List.length_take]; omega
  have r2' : (runD (newD n.toNat) (l.take (i + 1))).waits.length ≤ i + 1 := by have : (newD n.toNat).waits.length = 0 := rfl; omega
  rw [← hrun] at h5
  refine CallT.mono (dunnagelaw04_alike.spec h5 (by omega)) ?_
  rintro _ w6 ⟨rfl, h6⟩
  exact cnd_neg rfl ⟨200 - (i + 1), by omega, i + 1, s5, s25, hw, by omega, by omega, rfl, h6⟩
theorem ops_reach {w : World} {bs : Nat → Prop} {e : TypeId} {a : Option Addr} {len cap : Nat}
    (h : DS.rel w (bdReach Try.prog) bs (.slice e 6 (.struct (.cons 0 1 (.int .i64) (.cons 1 1 (.int .i64) (.cons 2 1 (.int .i64) (.cons 3 1 (.int .u8) (.cons 4 1 .bool (.cons 5 1 (.slice T.bool 1 .bool) .nil)))))))) [.slice a len cap]) :
    ∃ l : List OpV, RdOps w ⟨a, len, cap⟩ l ∧ ∀ o ∈ l, o.keep.length ≤ 140737488351232 := by
  have key : ∀ es : List Value, es.length = 6 → DS.rel w (bdReach Try.prog) bs (.struct (.cons 0 1 (.int .i64) (.cons 1 1 (.int .i64) (.cons 2 1 (.int .i64) (.cons 3 1 (.int .u8) (.cons 4 1 .bool (.cons 5 1 (.slice T.bool 1 .bool) .nil))))))) es →
      ∃ o : OpV, encOp o = es ∧ (RdBo w o.s o.keep ∧ (-9223372036854775808 ≤ o.n ∧ o.n ≤ 9223372036854775807) ∧ (-9223372036854775808 ≤ o.at_ ∧ o.at_ ≤ 9223372036854775807) ∧ o.keep.length ≤ 140737488351232) := by
    intro es hl hr
    match es, hl with
    | [v0, v1, v2, v3, v4, v5], _ =>
      obtain ⟨⟨n0, h0, w0⟩, ⟨n1, h1, w1⟩, ⟨n2, h2, w2⟩, ⟨n3, h3, w3⟩, ⟨b4, h4⟩, h5, _⟩ := hr
      obtain ⟨a5, l5, c5, h50, _⟩ := id h5
      obtain ⟨keep, hk, hlc, hbd⟩ := bools_rel (h50 ▸ h5)
      have hkl : keep.length ≤ 140737488351232 := by
        have hk1 := hk.len
        simp only at hk1
        rcases hbd with hbd | hbd
        · omega
        · unfold bdReach at hbd
          obtain ⟨b, hb, hbd⟩ : ∃ b, Try.prog.bytesOf T.bool = b ∧ c5 * b ≤ reachBytes := ⟨_, rfl, hbd⟩
          have : b = 1 := by rw [← hb]; kernel_rfl
          subst this
          unfold reachBytes at hbd
          omega
      have hb : IntKind.u8.min ≤ n3 ∧ n3 ≤ IntKind.u8.max := by simpa [Lit.wf] using w3
      have g0 : 0 ≤ n3 := hb.1
      have g1 : n3 ≤ 255 := hb.2
      have hx : ((UInt8.ofNat n3.toNat).toNat : Int) = n3 := by
        have : (UInt8.ofNat n3.toNat).toNat = n3.toNat := by simp; omega
        rw [this]; omega
      have c1 : IntKind.i64.min ≤ n1 ∧ n1 ≤ IntKind.i64.max := by simpa [Lit.wf] using w1
      have b1 : -9223372036854775808 ≤ n1 ∧ n1 ≤ 9223372036854775807 := c1
      have c2 : IntKind.i64.min ≤ n2 ∧ n2 ≤ IntKind.i64.max := by simpa [Lit.wf] using w2
      have b2 : -9223372036854775808 ≤ n2 ∧ n2 ≤ 9223372036854775807 := c2
      refine ⟨⟨n0, n1, n2, UInt8.ofNat n3.toNat, b4, ⟨a5, l5, c5⟩, keep⟩, ?_, hk, b2, b1, hkl⟩
      simp only [List.drop_zero, List.drop_succ_cons, List.take_succ_cons, List.take_zero, List.cons.injEq, and_true] at h0 h1 h2 h3 h4 h50
      subst h0 h1 h2 h3 h4 h50
      rw [encOp, hx]
  obtain ⟨l, h1, h2, h3, h4⟩ := DS.flat (enc := encOp) (fun o => RdBo w o.s o.keep ∧ (-9223372036854775808 ≤ o.n ∧ o.n ≤ 9223372036854775807) ∧ (-9223372036854775808 ≤ o.at_ ∧ o.at_ ≤ 9223372036854775807) ∧ o.keep.length ≤ 140737488351232) h (fun _ => rfl) (by decide) key
  exact ⟨l, ⟨h1, fun o ho => ⟨(h4 o ho).1, (h4 o ho).2.1, (h4 o ho).2.2.1⟩⟩, fun o ho => (h4 o ho).2.2.2⟩
theorem dunnagelaw04_DiskPlays.row (n : Int) {w : World} {bs : Nat → Prop} {e : TypeId} {a : Option Addr} {len cap : Nat}
    (h : DS.rel w (bdReach Try.prog) bs (.slice e 6 (.struct (.cons 0 1 (.int .i64) (.cons 1 1 (.int .i64) (.cons 2 1 (.int .i64) (.cons 3 1 (.int .u8) (.cons 4 1 .bool (.cons 5 1 (.slice T.bool 1 .bool) .nil)))))))) [.slice a len cap]) :
    CallT [.one .bool] Try.prog F.dunnagelaw04_DiskPlays [.int .i64 n, .slice a len cap] w fun r w' => r = true ∧ Ext w w' := by
  obtain ⟨l, h1, h2⟩ := ops_reach h
  exact dunnagelaw04_DiskPlays.spec n h1 h2
end Go.Proofs
