/- disk: Flush, Crash, Flip, Fork. Conditions: those of each contract. -/
import Derived.Test.YtinolellciikoaaCond7
import Derived.Test.YtinolellciikoaaCond8
import Derived.Test.YtinolellciikoaaCond13
import Derived.Test.YtinolellciikoaaDisk2
namespace Go.Proofs
open Go Go.Vc
theorem applyW_take {kept : List Sec} {ws : List Wr} {i : Nat} {p : Wr} (hp : ws[i]? = some p) : applyW kept (ws.take (i + 1)) = (applyW kept (ws.take i)).set p.1 p.2 := by
  rw [List.take_add_one, hp, Option.toList_some, applyW_snoc]
theorem arr_toList (l : List Value) : l.toArray.toList = l := rfl
set_option maxRecDepth 100000 in
theorem disk_Flush.spec {w : World} {d : Nat} {k s : SV} {D : DK} (h : DkAt w d k s D) (hn : D.waits.length ≤ 2000000) :
    CallT [.one (.int .i64)] Try.prog F.disk_Disk_Flush [dptr d] w fun r w' => r = (flushD D).2 ∧ ∃ s', DkTo w w' d k s s' (flushD D).1 := by
  refine disk_Disk_Flush.vc (some ⟨d, 0, none⟩) w _ ?_
  refine CallT.mono (disk_ready.spec h) ?_
  rintro _ _ ⟨rfl, rfl⟩
  by_cases hdn : D.down = true
  · rw [if_pos hdn, flushD, if_pos hdn]
    exact cnd_pos rfl ⟨rfl, s, h.to⟩
  rw [if_neg hdn, flushD, if_neg hdn]
  refine cnd_neg rfl (CallT.mono (disk_counted.spec h) ?_)
  rintro _ w1 ⟨rfl, h1⟩
  refine cnd_bne (fun hne => ?_) (fun he => ?_)
  · rw [if_pos hne]; exact ⟨rfl, s, h1⟩
  rw [if_neg (by rw [he]; simp)]
  obtain ⟨ck, cw, cf⟩ := cntD_kept D
  generalize hD1 : (cntD D).1 = D1 at *
  have a1 := h1.at_
  have hsl := a1.wait.len
  refine ⟨s, a1.blk.get 1 rfl, fun n x w' => ∃ i : Nat, x = i ∧ i ≤ D.waits.length ∧ n = D.waits.length - i ∧ DkTo w1 w' d k s s { D1 with kept := applyW D.kept (D.waits.take i) }, ⟨_, 0, rfl, by omega, rfl, ?_⟩, ?_⟩
  · have : ({ D1 with kept := applyW D.kept (D.waits.take 0) } : DK) = D1 := by rw [List.take_zero, applyW, List.foldl_nil, ← ck]
    rw [this]; exact a1.to
  rintro n _ _ w2 ⟨i, rfl, hi, rfl, h2⟩
  have a2 := h2.at_
  rw [cw] at hsl
  refine cnd_dec (fun hlt => ?_) (fun hge => ?_)
  · have hil : i < D.waits.length := by omega
    have hx : D.waits[i]? = some D.waits[i] := List.getElem?_eq_getElem hil
    generalize D.waits[i] = p at hx
    have hx1 : D1.waits[i]? = some p := by rw [cw]; exact hx
    have hw : IntKind.i64.wrap ((i : Int) + 1) = ((i + 1 : Nat) : Int) := by rw [i64_id] <;> omega
    have hpr : p.1 < D.kept.length := h.rng p (List.mem_of_getElem? hx)
    refine ⟨by omega, by omega, a2.wait.rd.get (i := i) (by simp only [cw]; exact hil) fun A hA => ?_⟩
    rw [Int.toNat_natCast]
    refine ⟨(encWr p).toArray, by simpa using encWr_len p, fun j hj => bigAt (a2.wait.rd.at_ hx1 hA) j (by rw [encWr_len]; exact hj), ?_⟩
    generalize hc : w2.alloc _ = w3
    dsimp only
    generalize hd : setCells w3 _ 0 _ = w4
    obtain ⟨c4, b4, e4, z4⟩ := bk_mk (T := T.disk_write) (z := zc Try.prog T.disk_write) (vs := encWr p) hc hd (by rw [zc_write, encWr_len, encWr_len])
    have a4 : DkAt w4.drew d k s { D1 with kept := applyW D.kept (D.waits.take i) } := a2.ext e4.drew
    have b4d : BK w4.drew w2.heap.size T.disk_write (encWr p) := b4
    have hkl := a4.kept.len
    simp only [applyW_len] at hkl
    refine ⟨encWr_len p, encWr_oneV p, c4, ?_⟩
    refine ⟨k, a4.blk.get 0 rfl, (p.1 : Int), b4d.get 0 rfl, (B8 p.2.1).toArray, by simpa using encSec_len p.2, fun j hj => bigAt (b4d.all.drop 1) j (by rw [show (encWr p).drop 1 = B8 p.2.1 from rfl, B8_length, p.2.2]; exact hj), by omega, by omega, a4.kept.rd.get (i := p.1) (by simp only [applyW_len]; exact hpr) fun A' hA' => ?_⟩
    rw [Int.toNat_natCast]
    obtain ⟨cc, h5⟩ := a4.setk (i := p.1) (by simp only [applyW_len]; exact hpr) hA' p.2
    refine ⟨encSec_len p.2, B8_oneV _, cc, D.waits.length - (i + 1), by omega, i + 1, hw, by omega, rfl, ?_⟩
    rw [applyW_take hx]
    exact (h2.ext e4.drew).tr h5
  · have : i = D.waits.length := by omega
    subst this
    rw [List.take_length] at h2 a2
    obtain ⟨g1, g2, g3⟩ := a2.putW (s' := ⟨none, 0, 0⟩) (l := []) (Upd.refl _ w2) (OwnS.nil encWr_len (by decide) _ _ _) (fun b hb => by obtain ⟨A, hA, _⟩ := hb; simp at hA) (by simp)
    exact ⟨g1, g2, rfl, _, (h1.tr h2).tr g3⟩

/-! ### Crash -/
def keepW : List Wr → List Bool → List Wr
  | [], _ => []
  | _ :: _, [] => []
  | p :: r, b :: bs => if b = true then p :: keepW r bs else keepW r bs
theorem keepW_take : ∀ {ws : List Wr} {keep : List Bool} {i : Nat} {p : Wr}, ws[i]? = some p → keepW (ws.take (i + 1)) keep = keepW (ws.take i) keep ++ (if keep.getD i false = true then [p] else [])
  | [], keep, i, p, h => by simp at h
  | q :: r, [], i, p, h => by cases i <;> simp [keepW]
  | q :: r, b :: bs, 0, p, h => by
    obtain rfl := Option.some.inj h
    cases b <;> simp [keepW]
  | q :: r, b :: bs, i + 1, p, h => by
    have ih := keepW_take (ws := r) (keep := bs) (i := i) (p := p) (by simpa using h)
    simp only [List.take_succ_cons, keepW, List.getD_cons_succ]
    rw [ih]
    split <;> simp
theorem keepW_mem : ∀ {ws : List Wr} {keep : List Bool} {p : Wr}, p ∈ keepW ws keep → p ∈ ws
  | [], _, p, h => by simp [keepW] at h
  | q :: r, [], p, h => by simp [keepW] at h
  | q :: r, b :: bs, p, h => by
    rw [keepW] at h
    split at h
    · rcases List.mem_cons.1 h with rfl | h
      · simp
      · exact List.mem_cons_of_mem _ (keepW_mem h)
    · exact List.mem_cons_of_mem _ (keepW_mem h)
def crashD (D : DK) (keep : List Bool) : DK := { D with down := true, kept := applyW D.kept (keepW D.waits keep), waits := [] }
abbrev RdBo (w : World) (s : SV) (l : List Bool) : Prop := RdS (fun b : Bool => [Value.bool b]) 1 w s l
set_option maxRecDepth 100000 in
theorem disk_Crash.spec {w : World} {d : Nat} {k s : SV} {D : DK} (h : DkAt w d k s D) (hn : D.waits.length ≤ 2000000) {t : SV} {keep : List Bool} (ht : ∀ w', Upd (fp d k s) w w' → RdBo w' t keep) :
    CallT [.one (.int .i64)] Try.prog F.disk_Disk_Crash [dptr d, .slice t.a t.len t.cap] w fun r w' => r = 0 ∧ ∃ s', DkTo w w' d k s s' (crashD D keep) := by
  refine disk_Disk_Crash.vc (some ⟨d, 0, none⟩) t w _ ?_
  have htl := (ht w (Upd.refl _ _)).len
  obtain ⟨g1, g2, h1⟩ := h.put 2 (by omega) (.bool true) { D with down := true } rfl rfl rfl h.arm
  refine cnd_neg rfl ⟨g1, g2, ?_⟩
  dsimp only
  generalize w.setCell (Addr.add ⟨d, 0, none⟩ 2) (.bool true) = w1 at h1 ⊢
  have a1 := h1.at_
  have hsl := a1.wait.len
  simp only at hsl
  refine ⟨s, a1.blk.get 1 rfl, fun n x w' => ∃ i : Nat, x = i ∧ i ≤ D.waits.length ∧ n = D.waits.length - i ∧ DkTo w w' d k s s { D with down := true, kept := applyW D.kept (keepW (D.waits.take i) keep) }, ⟨_, 0, rfl, by omega, rfl, h1⟩, ?_⟩
  rintro n _ _ w2 ⟨i, rfl, hi, rfl, h2⟩
  have a2 := h2.at_
  refine cnd_dec (fun hlt => ?_) (fun hge => ?_)
  · have hil : i < D.waits.length := by omega
    have hx : D.waits[i]? = some D.waits[i] := List.getElem?_eq_getElem hil
    generalize D.waits[i] = p at hx
    have hw : IntKind.i64.wrap ((i : Int) + 1) = ((i + 1 : Nat) : Int) := by rw [i64_id] <;> omega
    have hpr : p.1 < D.kept.length := h.rng p (List.mem_of_getElem? hx)
    refine ⟨by omega, by omega, a2.wait.rd.get (i := i) hil fun A hA => ?_⟩
    rw [Int.toNat_natCast]
    refine ⟨(encWr p).toArray, by simpa using encWr_len p, fun j hj => bigAt (a2.wait.rd.at_ hx hA) j (by rw [encWr_len]; exact hj), ?_⟩
    generalize hc : w2.alloc _ = w3
    dsimp only
    generalize hd : setCells w3 _ 0 _ = w4
    obtain ⟨c4, b4, e4, z4⟩ := bk_mk (T := T.disk_write) (z := zc Try.prog T.disk_write) (vs := encWr p) hc hd (by rw [zc_write, encWr_len, encWr_len])
    have h4 := h2.ext e4
    have ht4 : RdBo w4 t keep := ht w4 h4.u
    refine ⟨encWr_len p, encWr_oneV p, c4, fun x w' => w4 = w' ∧ x = keep.getD i false, ?_, ?_⟩
    · refine cnd_dec (fun hlt2 => ?_) (fun hge2 => ⟨rfl, ?_⟩)
      · have hik : i < keep.length := by omega
        have hy : keep[i]? = some keep[i] := List.getElem?_eq_getElem hik
        refine ⟨by omega, by omega, ht4.get hik fun A' hA' => ⟨keep[i], ?_, rfl, ?_⟩⟩
        · exact (ht4.at_ hy hA') 0 _ rfl
        · rw [List.getD_eq_getElem?_getD, hy]; rfl
      · rw [List.getD_eq_getElem?_getD, List.getElem?_eq_none (by omega)]; rfl
    · rintro _ _ _ ⟨rfl, rfl⟩
      have b4d : BK w4.drew w2.heap.size T.disk_write (encWr p) := b4
      have hD : ∀ b, keep.getD i false = b → applyW D.kept (keepW (D.waits.take (i + 1)) keep) = if b = true then (applyW D.kept (keepW (D.waits.take i) keep)).set p.1 p.2 else applyW D.kept (keepW (D.waits.take i) keep) := by
        intro b hb
        rw [keepW_take hx, hb]
        cases b
        · simp
        · simp [applyW_snoc]
      refine cnd_intro (fun htr => ?_) (fun hfa => ?_)
      · have a4 : DkAt w4.drew d k s { D with down := true, kept := applyW D.kept (keepW (D.waits.take i) keep) } := h4.at_.ext (ext_drew _)
        have hkl := a4.kept.len
        simp only [applyW_len] at hkl
        refine ⟨k, a4.blk.get 0 rfl, (p.1 : Int), b4d.get 0 rfl, (B8 p.2.1).toArray, by simpa using encSec_len p.2, fun j hj => bigAt (b4d.all.drop 1) j (by rw [show (encWr p).drop 1 = B8 p.2.1 from rfl, B8_length, p.2.2]; exact hj), by omega, by omega, a4.kept.rd.get (i := p.1) (by simp only [applyW_len]; exact hpr) fun A' hA' => ?_⟩
        rw [Int.toNat_natCast]
        obtain ⟨cc, h5⟩ := a4.setk (i := p.1) (by simp only [applyW_len]; exact hpr) hA' p.2
        refine ⟨encSec_len p.2, B8_oneV _, cc, D.waits.length - (i + 1), by omega, i + 1, hw, by omega, rfl, ?_⟩
        rw [hD true htr, if_pos rfl]
        exact (h4.ext (ext_drew _)).tr h5
      · refine ⟨D.waits.length - (i + 1), by omega, i + 1, hw, by omega, rfl, ?_⟩
        rw [hD false hfa, if_neg (by simp)]
        exact h4
  · have : i = D.waits.length := by omega
    subst this
    rw [List.take_length] at h2 a2
    obtain ⟨g1, g2, g3⟩ := a2.putW (s' := ⟨none, 0, 0⟩) (l := []) (Upd.refl _ w2) (OwnS.nil encWr_len (by decide) _ _ _) (fun b hb => by obtain ⟨A, hA, _⟩ := hb; simp at hA) (by simp)
    exact ⟨g1, g2, rfl, _, h2.tr g3⟩

/-! ### Flip -/
def bitB (bit : Nat) : UInt8 := UInt8.ofNat (2 ^ (bit % 8))
def flipS (x : Sec) (bit : Nat) : Sec := ⟨x.1.set (bit / 8) (x.1.getD (bit / 8) 0 ^^^ bitB bit), by rw [List.length_set]; exact x.2⟩
def flipD (D : DK) (at_ bit : Int) : DK × Int :=
  if ¬ (0 ≤ at_ ∧ at_ < D.kept.length) ∨ bit < 0 ∨ 4096 ≤ bit then (D, 1) else ({ D with kept := D.kept.set at_.toNat (flipS (D.kept.getD at_.toNat zeroSec) bit.toNat), flips := D.flips + 1 }, 0)
theorem bit_xor {c : UInt8} {m : Nat} (hm : m < 8) : bxor .u8 (c.toNat : Int) (shl .u8 1 (m : Int)) = ((c ^^^ UInt8.ofNat (2 ^ m)).toNat : Int) := by
  have hlt : 2 ^ m < 256 := by
    have : 2 ^ m < 2 ^ 8 := Nat.pow_lt_pow_right (by decide) hm
    omega
  have h1 : shl .u8 1 (m : Int) = ((2 ^ m : Nat) : Int) := by
    have := shl_nat (k := .u8) (a := 1) (b := m) rfl (by simp only [IntKind.bits]; omega)
    rw [Nat.one_mul, Nat.mod_eq_of_lt (by simpa [IntKind.bits] using hlt)] at this
    exact this
  have h2 : (UInt8.ofNat (2 ^ m)).toNat = 2 ^ m := by simp; omega
  rw [h1]
  have := bxor_nat (k := .u8) rfl (a := c.toNat) (b := 2 ^ m) c.toNat_lt (by simpa [IntKind.bits] using hlt)
  rw [UInt8.toNat_xor, h2]; exact this
set_option maxRecDepth 100000 in
theorem disk_Flip.spec {w : World} {d : Nat} {k s : SV} {D : DK} (h : DkAt w d k s D) (hf : D.flips ≤ 1000000) (at_ bit : Int) :
    CallT [.one (.int .i64)] Try.prog F.disk_Disk_Flip [dptr d, .int .i64 at_, .int .i64 bit] w fun r w' => r = (flipD D at_ bit).2 ∧ DkTo w w' d k s s (flipD D at_ bit).1 := by
  refine disk_Disk_Flip.vc (some ⟨d, 0, none⟩) at_ bit w _ ?_
  refine cnd_neg rfl ⟨fun _ w' => w = w' ∧ (0 ≤ at_ ∧ at_ < D.kept.length) ∧ 0 ≤ bit ∧ bit < 4096, CallT.mono (disk_has.spec h at_) ?_, ?_⟩
  · rintro _ _ ⟨rfl, rfl⟩
    have bad : (¬ (0 ≤ at_ ∧ at_ < D.kept.length) ∨ bit < 0 ∨ 4096 ≤ bit) → (1 : Int) = (flipD D at_ bit).2 ∧ DkTo w w d k s s (flipD D at_ bit).1 := fun hb => by
      rw [flipD, if_pos hb]; exact ⟨rfl, h.to⟩
    exact cnd_not (fun hff => bad (.inl (by simpa using hff))) (fun htr => cnd_dec (fun h0 => bad (.inr (.inl h0))) (fun h0 => cnd_dec (fun h1 => bad (.inr (.inr (by omega)))) (fun h1 => ⟨rfl, by simpa using htr, by omega, by omega⟩)))
  rintro _ _ _ ⟨rfl, hat, hb0, hb1⟩
  obtain ⟨i, rfl⟩ : ∃ i : Nat, at_ = i := ⟨at_.toNat, by omega⟩
  obtain ⟨b, rfl⟩ : ∃ b : Nat, bit = b := ⟨bit.toNat, by omega⟩
  rw [flipD, if_neg (by omega)]
  have hil : i < D.kept.length := by omega
  have hd : DkAt w.drew d k s D := h.ext (ext_drew _)
  have hkl := hd.kept.len
  have hx : D.kept[i]? = some D.kept[i] := List.getElem?_eq_getElem hil
  have hgd : D.kept.getD i zeroSec = D.kept[i] := by rw [List.getD_eq_getElem?_getD, hx]; rfl
  generalize D.kept[i] = x at hx hgd
  have hq : IntKind.i64.wrap ((b : Int).tdiv 8) = ((b / 8 : Nat) : Int) := by
    rw [Int.tdiv_eq_ediv_of_nonneg (by omega), i64_id (by omega) (by omega)]; omega
  have hm : (b : Int).tmod 8 = ((b % 8 : Nat) : Int) := by rw [Int.tmod_eq_emod_of_nonneg (by omega)]; omega
  rw [hq, hm]
  simp only [Int.toNat_natCast, Nat.mul_one]
  rw [hgd]
  have h8 : b / 8 < x.1.length := by rw [x.2]; omega
  have hcell : (encSec x)[b / 8]? = some (.int .u8 ((x.1.getD (b / 8) 0).toNat : Int)) := by
    simp only [encSec, B8, List.getElem?_map, List.getElem?_eq_getElem h8, Option.map_some, List.getD_eq_getElem?_getD, Option.getD_some]
  refine ⟨k, hd.blk.get 0 rfl, by omega, by omega, hd.kept.rd.get hil fun A hA => ⟨by omega, by omega, ((x.1.getD (b / 8) 0).toNat : Int), hd.kept.rd.fld hx hA hcell, by omega, by omega, by omega, ?_⟩⟩
  rw [hA, bit_xor (by omega)]
  obtain ⟨c1, c2, c3, c4, c5⟩ := hd.kept.setf hx hA (k := b / 8) (by omega) (v := .int .u8 ((x.1.getD (b / 8) 0 ^^^ UInt8.ofNat (2 ^ (b % 8))).toNat : Int)) (y := flipS x b) (by
    simp only [encSec, flipS, B8, List.map_set]; rfl)
  refine ⟨by omega, by omega, c1, c2, ?_⟩
  generalize w.drew.setCell ((A.add (i * 512)).add (b / 8)) (.int .u8 ((x.1.getD (b / 8) 0 ^^^ UInt8.ofNat (2 ^ (b % 8))).toNat : Int)) = w2 at c3 c4 c5 ⊢
  have a2 : DkAt w2 d k s { D with kept := D.kept.set i (flipS x b) } :=
    ⟨hd.blk.upd c5 hd.dk, c3, ⟨hd.wait.own.upd c5 fun b hb hk => hd.ks b hk hb, hd.wait.esz, hd.wait.pos⟩, hd.dk, hd.ds, hd.ks, by simp only [List.length_set]; exact hd.rng, by simp only [List.length_set]; exact hd.num, hd.arm⟩
  have t2 : DkTo w w2 d k s s { D with kept := D.kept.set i (flipS x b) } := DkTo.pre (ext_drew w) ⟨a2, c5.mono fun x _ hx => .inr (.inl hx), fun _ hb => .inl hb⟩
  obtain ⟨g1, g2, g3⟩ := a2.put 4 (by omega) (.int .i64 ((D.flips + 1 : Nat) : Int)) { D with kept := D.kept.set i (flipS x b), flips := D.flips + 1 } rfl rfl rfl a2.arm
  have hw : IntKind.i64.wrap ((D.flips : Int) + 1) = ((D.flips + 1 : Nat) : Int) := by rw [i64_id] <;> omega
  refine ⟨(D.flips : Int), a2.blk.get 4 rfl, g1, g2, trivial, ?_⟩
  rw [hw]
  exact t2.tr g3

/-! ### Fork -/
theorem clone_content.spec {w : World} {s : SV} {l : List Sec} (hs : RdS encSec 512 w s l) (hl : l.length ≤ 65536) :
    CallT [.one .slice] Try.prog F.slices_Clone_disk_content_disk_content [.slice s.a s.len s.cap] w fun o w' => OwnS encSec 512 T.disk_content w' w.heap.size o l ∧ Ext w w' := by
  refine slices_Clone_disk_content_disk_content.vc s w _ ?_
  have hsl := hs.len
  cases ha : s.a with
  | none =>
    have hx0 : l = [] := by have := hs.rd.nil ha; rw [hsl] at this; exact List.eq_nil_of_length_eq_zero this
    subst hx0
    exact ⟨OwnS.nil encSec_len (by decide) _ _ _, Upd.refl _ _⟩
  | some A =>
    have h0 : Own (w.alloc (.cells #[] T.disk_content)) w.heap.size T.disk_content 512 ⟨some ⟨w.heap.size, 0, none⟩, 0, 0⟩ [] := Own.new w T.disk_content 512 0 [] rfl
    have := app_rd (ty := T.sl_disk_content) (K := fun s' w' => OwnS encSec 512 T.disk_content w' w.heap.size s' l ∧ Ext w w') (t := s) app_content (ext_alloc w _) h0 (hs.ext (ext_alloc _ _)).rd (fun v hv => by
      obtain ⟨x, _, hx⟩ := List.mem_flatMap.1 hv; exact encSec_one x v hx) (fun hlt => ?_) ?_
    · rw [ha] at this; exact this
    · simp only [Nat.zero_add] at hlt ⊢
      rw [nextcap_zero hlt]; omega
    · intro s' w' ho hu _ hn
      exact ⟨⟨by simpa using ho, encSec_len, by decide⟩, hu⟩
theorem clone_write.spec {w : World} {s : SV} {l : List Wr} (hs : RdS encWr 513 w s l) (hl : l.length ≤ 2000000) :
    CallT [.one .slice] Try.prog F.slices_Clone_disk_write_disk_write [.slice s.a s.len s.cap] w fun o w' => OwnS encWr 513 T.disk_write w' w.heap.size o l ∧ Ext w w' := by
  refine slices_Clone_disk_write_disk_write.vc s w _ ?_
  have hsl := hs.len
  cases ha : s.a with
  | none =>
    have hx0 : l = [] := by have := hs.rd.nil ha; rw [hsl] at this; exact List.eq_nil_of_length_eq_zero this
    subst hx0
    exact ⟨OwnS.nil encWr_len (by decide) _ _ _, Upd.refl _ _⟩
  | some A =>
    have h0 : Own (w.alloc (.cells #[] T.disk_write)) w.heap.size T.disk_write 513 ⟨some ⟨w.heap.size, 0, none⟩, 0, 0⟩ [] := Own.new w T.disk_write 513 0 [] rfl
    have := app_rd (ty := T.sl_disk_write) (K := fun s' w' => OwnS encWr 513 T.disk_write w' w.heap.size s' l ∧ Ext w w') (t := s) app_write (ext_alloc w _) h0 (hs.ext (ext_alloc _ _)).rd (fun v hv => by
      obtain ⟨x, _, hx⟩ := List.mem_flatMap.1 hv; exact encWr_one x v hx) (fun hlt => ?_) ?_
    · rw [ha] at this; exact this
    · simp only [Nat.zero_add] at hlt ⊢
      rw [nextcap_zero hlt]; omega
    · intro s' w' ho hu _ hn
      exact ⟨⟨by simpa using ho, encWr_len, by decide⟩, hu⟩
end Go.Proofs
