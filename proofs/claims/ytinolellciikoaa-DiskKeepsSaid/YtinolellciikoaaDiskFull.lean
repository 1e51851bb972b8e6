/- dunnagelaw04.full, awake; calls on a nil disk; the walk of DiskNil. Conditions: those of each contract. -/
import Derived.Test.YtinolellciikoaaCond1
import Derived.Test.YtinolellciikoaaCond7
import Derived.Test.YtinolellciikoaaCond8
import Derived.Test.YtinolellciikoaaCond13
import Derived.Test.YtinolellciikoaaDisk4
import Derived.Test.YtinolellciikoaaRowsL
namespace Go.Proofs
open Go Go.Vc
@[reducible] def encB (b : UInt8) : List Value := [.int .u8 b.toNat]
theorem _root_.Go.Vc.OwnS.bytes {w : World} {B : Nat} {s : SV} {l : List UInt8} (h : OwnS encB 1 T.uint8 w B s l) : OwnB w B s l := by
  have := h.own
  rwa [show l.flatMap encB = B8 l from B8_flat l] at this
theorem ownB_cells {w : World} {B : Nat} {s : SV} {l : List UInt8} (h : OwnB w B s l) : OwnS encB 1 T.uint8 w B s l :=
  ⟨by rw [show l.flatMap encB = B8 l from B8_flat l]; exact h, fun _ => rfl, by decide⟩
theorem own_prefix {w : World} {B : Nat} {T : TypeId} {sz i : Nat} {s : SV} {xs ys : List Value} (h : Own w B T sz s (xs ++ ys)) (ha : xs.length = i * sz) (hi : i ≤ s.len) : Own w B T sz ⟨s.a, i, s.cap⟩ xs := by
  rcases h.is with ⟨h1, h2, h3⟩ | ⟨b, rest, hs, hB, hb, hcap, hle⟩
  · exact ⟨ha, .inl ⟨h1, by simp only; omega, h3⟩⟩
  · exact ⟨ha,   .inr ⟨b, ys ++ rest, hs, hB, by rw [← List.append_assoc]; exact hb, by rw [← List.append_assoc]; exact hcap, by simp only; omega⟩⟩
def fullL (v : Int) : List UInt8 := (List.range 512).map fun (i : Nat) => UInt8.ofNat ((v + (i : Int)) % 256).toNat
def fullB (v : Int) (short : Bool) : List UInt8 := if short = true then (fullL v).take 511 else fullL v
theorem fullL_len (v : Int) : (fullL v).length = 512 := by rw [fullL, List.length_map, List.length_range]
theorem fullB_len (v : Int) : (fullB v false).length = 512 := fullL_len v
set_option maxRecDepth 100000 in
theorem full04.spec (v : Int) (short : Bool) (w : World) : CallT [.one .slice] Try.prog F.dunnagelaw04_full [.int .u8 v, .bool short] w fun o w' => OwnB w' w.heap.size o (fullB v short) ∧ Ext w w' := by
  refine dunnagelaw04_full.vc v short w _ ?_
  refine mkSV_own (bt := 1) (sz := 1) sl_u8 (by kernel_rfl) (by kernel_rfl) u8_z rfl (by omega) (by omega) (by omega) (by omega) ?_
  have hrep : reps (Int.toNat 512) [Value.int .u8 0] = (List.replicate 512 (0 : UInt8)).flatMap encB := reps_flat encB 0 512
  rw [hrep]
  have h0 : OwnS encB 1 T.uint8 (w.alloc (.cells ((List.replicate 512 (0 : UInt8)).flatMap encB).toArray T.uint8)) w.heap.size ⟨some ⟨w.heap.size, 0, none⟩, 512, 512⟩ (List.replicate 512 0) :=
    ⟨Own.new w T.uint8 1 512 _ (by rw [flat_len (enc := encB) (fun _ => rfl), List.length_replicate]), fun _ => rfl, by decide⟩
  have e0 := ext_alloc w (.cells ((List.replicate 512 (0 : UInt8)).flatMap encB).toArray T.uint8)
  change ∃ I : Nat → Int → World → Prop, _
  generalize w.alloc (.cells ((List.replicate 512 (0 : UInt8)).flatMap encB).toArray T.uint8) = w1 at h0 e0 ⊢
  have ht : ∀ i, i < 512 → (fullL v).take (i + 1) = (fullL v).take i ++ [UInt8.ofNat ((v + (i : Int)) % 256).toNat] := fun i hi => by
    rw [List.take_add_one]
    congr 1
    simp [fullL, hi]
  refine ⟨fun n x w' => ∃ i : Nat, x = i ∧ i ≤ 512 ∧ n = 512 - i ∧ Ext w w' ∧ OwnS encB 1 T.uint8 w' w.heap.size ⟨some ⟨w.heap.size, 0, none⟩, 512, 512⟩ ((fullL v).take i ++ List.replicate (512 - i) 0), ⟨_, 0, rfl, by omega, rfl, e0, h0⟩, ?_⟩
  rintro n _ _ w2 ⟨i, rfl, hi, rfl, e2, h2⟩
  have htl : ((fullL v).take i).length = i := by rw [List.length_take, fullL_len]; omega
  refine cnd_dec (fun hlt => ?_) (fun hge => ?_)
  · have hil : i < 512 := by have : (i : Int) < 512 := hlt; omega
    have hw : IntKind.i64.wrap ((i : Int) + 1) = ((i + 1 : Nat) : Int) := by rw [i64_id] <;> omega
    have hwv : IntKind.u8.wrap (v + IntKind.u8.wrap (i : Int)) = ((UInt8.ofNat ((v + (i : Int)) % 256).toNat).toNat : Int) := by
      rw [u8_mod, u8_mod]
      have : (UInt8.ofNat ((v + (i : Int)) % 256).toNat).toNat = ((v + (i : Int)) % 256).toNat := by simp; omega
      rw [this]; omega
    have hrep : List.replicate (512 - i) (0 : UInt8) = 0 :: List.replicate (512 - (i + 1)) 0 := by rw [← List.replicate_succ]; congr 1; omega
    have hx : ((fullL v).take i ++ List.replicate (512 - i) 0)[i]? = some 0 := by
      rw [List.getElem?_append_right (by omega), htl, Nat.sub_self, hrep]; rfl
    obtain ⟨c1, c2, c3, c4, c5⟩ := h2.setf (A := ⟨w.heap.size, 0, none⟩) hx rfl (k := 0) (by decide) (v := .int .u8 ((UInt8.ofNat ((v + (i : Int)) % 256).toNat).toNat : Int)) (y := UInt8.ofNat ((v + (i : Int)) % 256).toNat) rfl
    refine ⟨by omega, hlt, ?_⟩
    rw [hwv, Int.toNat_natCast]
    refine ⟨c1, c2, 512 - (i + 1), by omega, i + 1, hw, by omega, rfl, e2.newS (fun b hb => h2.own.blk_ge hb) c5, ?_⟩
    have : ((fullL v).take i ++ List.replicate (512 - i) 0).set i (UInt8.ofNat ((v + (i : Int)) % 256).toNat) = (fullL v).take (i + 1) ++ List.replicate (512 - (i + 1)) 0 := by
      rw [List.set_append_right _ _ (by omega), htl, Nat.sub_self, hrep, ht i hil]; simp
    rw [← this]
    exact c3
  · have : i = 512 := by
      have : ¬ ((i : Int) < 512) := hge
      omega
    subst this
    rw [List.take_of_length_le (by rw [fullL_len]; exact Nat.le_refl _), Nat.sub_self, List.replicate_zero, List.append_nil] at h2
    refine cnd_intro (fun hs => ?_) (fun hs => ?_)
    · subst hs
      have hw : IntKind.i64.wrap (((512 : Nat) : Int) - 1) = 511 := by rw [i64_id] <;> omega
      change 0 ≤ IntKind.i64.wrap (((512 : Nat) : Int) - 1) ∧ IntKind.i64.wrap (((512 : Nat) : Int) - 1) ≤ ((512 : Nat) : Int) ∧ _
      rw [hw]
      refine ⟨by omega, by omega, ?_, e2⟩
      rw [subA_zero]
      have h3 := h2.bytes
      have hsp : fullL v = (fullL v).take 511 ++ (fullL v).drop 511 := (List.take_append_drop _ _).symm
      rw [OwnB, hsp, show B8 ((fullL v).take 511 ++ (fullL v).drop 511) = B8 ((fullL v).take 511) ++ B8 ((fullL v).drop 511) from List.map_append] at h3
      have := own_prefix (i := 511) h3 (by rw [B8_length, List.length_take, fullL_len]; rfl) (by show 511 ≤ 512; omega)
      rw [fullB, if_pos rfl]
      exact this
    · rw [fullB, if_neg (by rw [hs]; simp)]
      exact ⟨h2.bytes, e2⟩

/-! ### awake -/
theorem cntD_zero {D : DK} (h : D.armed = 0) : cntD D = (D, 0) := by
  unfold cntD hitD; rw [if_pos h]; rfl
theorem cntD_pos {D : DK} (h : D.armed ≠ 0) : cntD D = if D.armed - 1 = 0 then ({ D with armed := D.armed - 1, down := true }, 40) else ({ D with armed := D.armed - 1 }, 0) := by
  unfold cntD hitD
  rw [if_neg h]
  by_cases h1 : D.armed - 1 = 0
  · rw [if_pos (by simp [h1]), if_pos h1]
  · rw [if_neg (by simp [h1]), if_neg h1]
theorem writeD_in {D : DK} {at_ : Int} {b : List UInt8} (hd : D.down = false) (h0 : 0 ≤ at_) (h1 : at_ < D.kept.length) (hb : b.length = 512) : writeD D at_ b = cntD { D with waits := D.waits ++ [(at_.toNat, secOf b)] } := by
  rw [writeD, if_neg (by rw [hd]; simp), if_neg (by rintro (h | h); exact h ⟨h0, h1⟩; exact h hb)]
theorem fullL_head (v : Int) : (fullL v)[0]? = some (UInt8.ofNat (v % 256).toNat) := by simp [fullL]
set_option maxRecDepth 100000 in
theorem dunnagelaw04_awake.spec (w : World) : CallT [.one .bool] Try.prog F.dunnagelaw04_awake [] w fun r w' => r = true ∧ Ext w w' := by
  refine dunnagelaw04_awake.vc w _ ?_
  refine CallT.mono (disk_New.spec 2 w) ?_
  rintro r w1 ⟨e1, h | ⟨_, d, k, s, rfl, h1, hf⟩⟩
  · omega
  have hD : newD (Int.toNat 2) = newD 2 := rfl
  rw [hD] at h1
  refine ⟨fun _ w' => ∃ s', DkTo w1 w' d k s s' (writeD (newD 2) 1 (fullB 7 false)).1, cnd_neg rfl (cnd_neg rfl (CallT.mono (full04.spec 7 false w1) ?_)), ?_⟩
  · rintro o w2 ⟨ho, e2⟩
    refine CallT.mono (disk_Write.spec (h1.ext e2) (by simp [newD]) (at_ := 1) ho.rd fun c _ hc hs => ?_) ?_
    · have := ho.blk_ge hc; have := h1.wait.own.blk_lt hs; omega
    rintro _ w3 ⟨rfl, s', h3⟩
    rw [writeD_in rfl (by omega) (by simp [newD]) (fullB_len 7), cntD_zero rfl]
    refine cnd_neg rfl ⟨s', ?_⟩
    have := h3
    rw [writeD_in rfl (by omega) (by simp [newD]) (fullB_len 7), cntD_zero rfl] at this
    exact DkTo.pre e2 this
  · rintro _ _ w3 ⟨s', h3⟩
    rw [writeD_in rfl (by omega) (by simp [newD]) (fullB_len 7), cntD_zero rfl] at h3
    refine CallT.mono (disk_Read.spec h3.at_ (by simp [newD]) 1) ?_
    rintro ⟨o, e⟩ w4 ⟨h4, he, e4⟩
    have hr : readD { newD 2 with waits := (newD 2).waits ++ [(Int.toNat 1, secOf (fullB 7 false))] } 1 = (fullB 7 false, 0) := by
      rw [readD, if_neg (by simp [newD]), if_neg (by simp [newD])]
      refine Prod.ext ?_ rfl
      simp only
      have : showD { newD 2 with waits := (newD 2).waits ++ [(Int.toNat 1, secOf (fullB 7 false))] } (Int.toNat 1) = secOf (fullB 7 false) := by
        simp [showD, lastW, newD]
      rw [this, secOf_val (fullB_len 7)]
    rw [hr] at h4 he
    dsimp only at h4 he ⊢
    subst he
    have hl := h4.lenB
    rw [fullB_len] at hl
    have h0 : (fullB 7 false)[0]? = some 7 := by rw [show fullB 7 false = fullL 7 from rfl, fullL_head]; rfl
    refine cnd_pos rfl (cnd_pos (by rw [hl]; rfl) ⟨by omega, by rw [hl]; decide, SV.getB h4.rd (i := 0) (by rw [fullB_len]; decide) fun A hA => ⟨7, h4.rd.cellB (i := 0) (b := 7) h0 hA, cnd_pos rfl (CallT.mono (disk_Waiting.spec (h3.at_.ext e4)) ?_)⟩⟩)
    rintro _ _ ⟨rfl, rfl⟩
    exact ⟨by simp [newD], (h3.ext_of e1 hf).tr e4⟩

/-! ### a nil disk -/
theorem nil_ready (w : World) : CallT [.one (.int .i64)] Try.prog F.disk_Disk_ready [.pointer none] w fun r w' => r = 2 ∧ w = w' :=
  disk_Disk_ready.vc none w _ (cnd_pos rfl ⟨rfl, rfl⟩)
theorem nil_Read (n : Int) (w : World) : CallT [.one .slice, .one (.int .i64)] Try.prog F.disk_Disk_Read [.pointer none, .int .i64 n] w fun r w' => r = (⟨none, 0, 0⟩, 2) ∧ w = w' := by
  refine disk_Disk_Read.vc none n w _ (CallT.mono (nil_ready w) ?_)
  rintro _ _ ⟨rfl, rfl⟩
  exact cnd_pos rfl ⟨rfl, rfl⟩
theorem nil_Write (n : Int) (t : SV) (w : World) : CallT [.one (.int .i64)] Try.prog F.disk_Disk_Write [.pointer none, .int .i64 n, .slice t.a t.len t.cap] w fun r w' => r = 2 ∧ w = w' := by
  refine disk_Disk_Write.vc none n t w _ (CallT.mono (nil_ready w) ?_)
  rintro _ _ ⟨rfl, rfl⟩
  exact cnd_pos rfl ⟨rfl, rfl⟩
theorem nil_Flush (w : World) : CallT [.one (.int .i64)] Try.prog F.disk_Disk_Flush [.pointer none] w fun r w' => r = 2 ∧ w = w' := by
  refine disk_Disk_Flush.vc none w _ (CallT.mono (nil_ready w) ?_)
  rintro _ _ ⟨rfl, rfl⟩
  exact cnd_pos rfl ⟨rfl, rfl⟩
theorem nil_Arm (n : Int) (w : World) : CallT [.one (.int .i64)] Try.prog F.disk_Disk_Arm [.pointer none, .int .i64 n] w fun r w' => r = 2 ∧ w = w' := by
  refine disk_Disk_Arm.vc none n w _ (CallT.mono (nil_ready w) ?_)
  rintro _ _ ⟨rfl, rfl⟩
  exact cnd_pos rfl ⟨rfl, rfl⟩
theorem dunnagelaw04_DiskNil.spec (at_ n : Int) (t u : SV) (w : World) :
    CallT [.one .bool] Try.prog F.dunnagelaw04_DiskNil [.int .i64 at_, .int .i64 n, .slice t.a t.len t.cap, .slice u.a u.len u.cap] w fun r w' => r = true ∧ Ext w w' := by
  refine dunnagelaw04_DiskNil.vc at_ n t u w _ ?_
  refine CallT.mono (nil_Read at_ w) ?_
  rintro _ _ ⟨rfl, rfl⟩
  refine CallT.mono (dunnagelaw04_awake.spec w) ?_
  rintro _ w1 ⟨rfl, e1⟩
  refine cnd_true (disk_Disk_Size.vc none w1 _ (cnd_pos rfl (cnd_pos rfl (CallT.mono (nil_Write at_ t w1) ?_))))
  rintro _ _ ⟨rfl, rfl⟩
  refine cnd_pos rfl (cnd_pos rfl (cnd_pos rfl (CallT.mono (nil_Flush w1) ?_)))
  rintro _ _ ⟨rfl, rfl⟩
  refine cnd_pos rfl (CallT.mono (nil_Arm n w1) ?_)
  rintro _ _ ⟨rfl, rfl⟩
  refine cnd_pos rfl (disk_Disk_Crash.vc none u w1 _ (cnd_pos rfl (cnd_pos rfl (disk_Disk_Start.vc none w1 _ (cnd_pos rfl (cnd_pos rfl (disk_Disk_Flip.vc none at_ n w1 _ (cnd_pos rfl (cnd_pos rfl (disk_Disk_Down.vc none w1 _ (cnd_neg rfl (cnd_pos rfl ?_))))))))))))
  refine disk_Disk_Waiting.vc none w1 _ (cnd_pos rfl (cnd_pos rfl (disk_Disk_Flips.vc none w1 _ (cnd_pos rfl (cnd_pos rfl (disk_Disk_Fork.vc none w1 _ (cnd_pos rfl ⟨rfl, e1⟩)))))))
end Go.Proofs
