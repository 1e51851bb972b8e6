/- dunnagehelp over api_Move: its contracts, written by a program (helpgen.py). Conditions: those of each contract. -/
import Derived.Test.YtdldamlephggmaaCond2
import Derived.Test.YtdldamlephggmaaCond3
import Derived.Test.YtdldamlephggmaaFwdEnt
namespace Go.Proofs
open Go Go.Vc
theorem app_api_Move : AppT Try.prog [T.sl_api_Move, T.sl_api_Move] T.api_Move 4 32 [.int .u64 0, .int .i64 0, .int .i64 0, .int .i64 0] :=
  ⟨⟨T.sl_api_Move, rfl, by kernel_rfl⟩, ⟨T.sl_api_Move, _, rfl, by kernel_rfl, .inr ⟨T.api_Move, rfl⟩⟩, by kernel_rfl, by kernel_rfl, by decide, by kernel_rfl, rfl, by
    intro v hv
    simp only [List.mem_cons, List.not_mem_nil, or_false] at hv
    rcases hv with rfl | rfl | rfl | rfl <;> rfl⟩
theorem one_api_Move (l : List Mv) : ∀ v ∈ l.flatMap encMv, v.oneCell' = true := by
  intro v hv
  obtain ⟨m, _, hm⟩ := List.mem_flatMap.1 hv
  exact encMv_one m v hm

set_option maxHeartbeats 1000000 in
theorem dunnagehelp_Own_api_Move.spec {w : World} {s : SV} {l : List Mv} (hs : RdS encMv 4 w s l) (hl : l.length * 32 ≤ 140737488351232) (c : Mv) :
    CallT [.one .slice] Try.prog F.dunnagehelp_Own_api_Move [.slice s.a s.len s.cap, .agg (encMv c).toArray] w fun o w' =>
      o.len = l.length ∧ o.cap = l.length + 3 ∧ Ext w w' ∧ ∃ b, Spare w' w.heap.size T.api_Move 4 o b (l.flatMap encMv) (reps 3 (encMv c)) := by
  have hlen := hs.len
  have h3 : IntKind.i64.wrap ((s.len : Int) + 3) = ((l.length + 3 : Nat) : Int) := by rw [i64_id] <;> omega
  refine dunnagehelp_Own_api_Move.vc s c w _ ?_
  rw [h3]
  obtain ⟨e0, z0, b0⟩ := alloc_facts w (.cells (encMv c).toArray T.api_Move)
  have hs0 := hs.ext e0
  generalize hw0 : w.alloc (.cells (encMv c).toArray T.api_Move) = w0 at e0 z0 b0 hs0
  refine mkSV_own (bt := 32) (sz := 4) (by kernel_rfl : Try.prog.underlying T.sl_api_Move = some (.slice T.api_Move)) (by kernel_rfl) (by kernel_rfl) (by kernel_rfl : zeroL Try.prog T.api_Move = some [.int .u64 0, .int .i64 0, .int .i64 0, .int .i64 0]) rfl (by omega) (by omega) (by omega) (by omega) ?_
  rw [show (Int.toNat 0) = 0 from rfl, Int.toNat_natCast]
  have hz : ([.int .u64 0, .int .i64 0, .int .i64 0, .int .i64 0] : List Value).length = 4 := rfl
  generalize ([.int .u64 0, .int .i64 0, .int .i64 0, .int .i64 0] : List Value) = z at hz ⊢
  have h0 : Spare (w0.alloc (.cells (reps (l.length + 3) z).toArray T.api_Move)) w0.heap.size T.api_Move 4 ⟨some ⟨w0.heap.size, 0, none⟩, 0, l.length + 3⟩ w0.heap.size [] (reps (l.length + 3) z) :=
    ⟨rfl, Nat.le_refl _, blk_new _ _, by simp, by rw [List.nil_append, reps_length, hz]⟩
  refine appV_fit app_api_Move h0 ((hs0.ext (ext_alloc _ _)).rd.src (one_api_Move l)) (by simp only; omega) ?_
  intro w1 h1 hu
  have he1 : Ext w0 w1 := (ext_alloc w0 _).trans hu fun x hx e => by omega
  have hfl : (l.flatMap encMv).length = l.length * 4 := flat_len encMv_len l
  have hdrop : (reps (l.length + 3) z).drop (l.flatMap encMv).length = reps 3 z := by rw [hfl]; exact reps_drop hz _ _
  simp only [List.nil_append, Nat.zero_add] at h1 ⊢
  rw [hdrop] at h1
  rw [hlen] at h1 ⊢
  have hw : IntKind.i64.wrap ((l.length : Int) + 3) = ((l.length + 3 : Nat) : Int) := by rw [i64_id] <;> omega
  simp only [Nat.sub_zero]
  refine ⟨by omega, by omega, fun n x w' => ∃ k : Nat, k ≤ 3 ∧ x = ((l.length + k : Nat) : Int) ∧ n = 3 - k ∧ Ext w0 w' ∧
      w'.heap[w0.heap.size]? = some (.cells (l.flatMap encMv ++ (reps k (encMv c) ++ reps (3 - k) z)).toArray T.api_Move (0, 0)), ⟨_, 0, by omega, rfl, rfl, he1, h1.blk⟩, ?_⟩
  rintro n x j w' ⟨k, hk, rfl, rfl, he, hb⟩
  refine cnd_dec (fun hlt => ?_) (fun hge => ?_)
  · have hk3 : k < 3 := by omega
    have hbc := he.get b0
    refine ⟨c, cellsAt_blk hbc (fun j v hv => by rw [Nat.zero_add, List.getElem?_toArray]; exact hv), by omega, by omega, ?_⟩
    simp only [subA_zero, onP_some, Int.toNat_natCast, add_mk, Nat.zero_add]
    have hoff : (l.length + k) * 4 = (l.flatMap encMv).length + k * 4 := by rw [hfl, Nat.add_mul]
    have hroom : (l.length + k) * 4 + 4 ≤ (l.flatMap encMv ++ (reps k (encMv c) ++ reps (3 - k) z)).length := by
      rw [List.length_append, List.length_append, hfl, reps_length, reps_length, encMv_len, hz]
      omega
    refine ⟨canSt_blk hb hroom, 3 - (k + 1), by omega, k + 1, by omega, by rw [i64_id] <;> omega, rfl, ?_, ?_⟩
    · exact he.setCells (p := ⟨w0.heap.size, (l.length + k) * 4, none⟩) (fun h => by simp at h) 0 _
    · have h5 := setCells_blk (o := (l.length + k) * 4) (encMv c) w' 0 _ hb (by rw [Nat.add_zero, encMv_len]; exact hroom)
      rw [Nat.add_zero, hoff, spl_reps (encMv_len c) hz hk3] at h5
      rw [hoff]
      exact h5
  · have hk3 : k = 3 := by omega
    subst hk3
    exact ⟨trivial, trivial, e0.tr he, _, ⟨rfl, by omega, by simpa [reps] using hb, by simp [hfl], by rw [List.length_append, hfl, reps_length, encMv_len, Nat.add_mul]⟩⟩

theorem dunnagehelp_Plain_api_Move_1.spec (a b : Mv) (w : World) :
    CallT [.one .bool] Try.prog F.dunnagehelp_Plain_api_Move_1 [.agg (encMv a).toArray, .agg (encMv b).toArray] w fun r w' => r = decide (a = b) ∧ Ext w w' := by
  refine dunnagehelp_Plain_api_Move_1.vc a b w _ ?_
  intro w1
  obtain ⟨e1, z1, b1⟩ := alloc_facts w (.cells (encMv a).toArray T.api_Move)
  intro w2
  obtain ⟨e2, z2, b2⟩ := alloc_facts w1 (.cells (encMv b).toArray T.api_Move)
  have b1 : w2.heap[w.heap.size]? = _ := e2.get b1
  exact ⟨a, cellsAt_blk b1 (fun j v hv => by rw [Nat.zero_add, List.getElem?_toArray]; exact hv), b, cellsAt_blk b2 (fun j v hv => by rw [Nat.zero_add, List.getElem?_toArray]; exact hv), encMv_eq a b, e1.tr e2⟩
theorem dunnagehelp_Plain_api_Move.spec {a b : SV} {x y : List Mv} {w : World} (ha : RdS encMv 4 w a x) (hb : RdS encMv 4 w b y) (hx : x.length < 2 ^ 62) :
    CallT [.one .bool] Try.prog F.dunnagehelp_Plain_api_Move [.slice a.a a.len a.cap, .slice b.a b.len b.cap] w fun r w' => r = decide (x = y) ∧ Ext w w' := by
  refine dunnagehelp_Plain_api_Move.vc a b w _ (dunnagehelp_Same_api_Move.vc a b _ w _ ?_)
  have hal := ha.len
  have hbl := hb.len
  refine cnd_bne (fun hne => ?_) (fun he => ?_)
  · have : x ≠ y := fun e => hne (by rw [hal, hbl, e])
    exact ⟨by simp [this], Upd.refl _ _⟩
  have hxy : x.length = y.length := by omega
  refine ⟨fun n i w' => ∃ k : Nat, i = k ∧ k ≤ x.length ∧ n = x.length - k ∧ Ext w w' ∧ x.take k = y.take k, ⟨_, 0, rfl, by omega, rfl, Upd.refl _ _, rfl⟩, ?_⟩
  rintro n i j w' ⟨k, rfl, hk, rfl, hu, hq⟩
  refine cnd_dec (fun hlt => ?_) (fun hge => ?_)
  · have hkx : k < x.length := by omega
    have hky : k < y.length := by omega
    have hw : Ext w w'.drew := hu.drew
    refine ⟨by omega, by omega, ha.get hkx fun A hA => ⟨x[k], (ha.ext hw).at_ (List.getElem?_eq_getElem hkx) hA, by omega, by omega,
      hb.get hky fun B hB => ⟨y[k], (hb.ext hw).at_ (List.getElem?_eq_getElem hky) hB, ?_⟩⟩⟩
    refine CallT.mono (dunnagehelp_Plain_api_Move_1.spec x[k] y[k] w'.drew) ?_
    rintro _ w2 ⟨rfl, e2⟩
    refine cnd_not (fun hf => ?_) (fun ht => ?_)
    · refine ⟨?_, hw.tr e2⟩
      have : x ≠ y := by
        rintro rfl
        simp at hf
      simp [this]
    · have hb : x[k] = y[k] := of_decide_eq_true ht
      refine ⟨_, ?_, k + 1, by rw [i64_id] <;> omega, by omega, rfl, hw.tr e2, ?_⟩
      · omega
      · rw [List.take_add_one, List.take_add_one, hq, List.getElem?_eq_getElem hkx, List.getElem?_eq_getElem hky, hb]
  · have hk2 : k = x.length := by omega
    subst hk2
    rw [List.take_length, List.take_of_length_le (by omega)] at hq
    exact ⟨by simp [hq], hu⟩

theorem dunnagehelp_Kept_api_Move.spec {o b : SV} {x y : List Mv} {w : World} {B g : Nat} {c : Mv} (ho : Spare w B T.api_Move 4 o g (x.flatMap encMv) (reps 3 (encMv c))) (hb : RdS encMv 4 w b y) (hx : x.length < 2 ^ 62) :
    CallT [.one .bool] Try.prog F.dunnagehelp_Kept_api_Move [.slice o.a o.len o.cap, .slice b.a b.len b.cap, .agg (encMv c).toArray] w fun r w' => r = decide (x = y) ∧ Ext w w' := by
  refine dunnagehelp_Kept_api_Move.vc o b c w _ ?_
  have hfl : (x.flatMap encMv).length = x.length * 4 := flat_len encMv_len x
  have hol : o.len = x.length := by have := ho.len; omega
  have hoc : o.cap = x.length + 3 := by have := ho.cap; rw [List.length_append, hfl, reps_length, encMv_len] at this; omega
  have hbl := hb.len
  obtain ⟨e0, z0, b0⟩ := alloc_facts w (.cells (encMv c).toArray T.api_Move)
  have ho0 := ho.ext e0
  have hb1 := hb.ext e0
  have hlt0 := ho.lt
  generalize hw0 : w.alloc (.cells (encMv c).toArray T.api_Move) = w0 at e0 z0 b0 ho0 hb1
  refine ⟨fun _ w' => x = y ∧ Ext w0 w', ?_, ?_⟩
  · refine CallT.mono (dunnagehelp_Plain_api_Move.spec (x := x) ⟨ho0.rd, encMv_len, by decide⟩ hb1 hx) ?_
    rintro _ w1 ⟨rfl, he⟩
    refine cnd_not (fun hf => ⟨hf.symm, e0.tr he⟩) (fun ht => ?_)
    have hxy : x = y := of_decide_eq_true ht
    subst hxy
    refine cnd_dec (fun hlt => ?_) (fun _ => ⟨rfl, he⟩)
    rw [i64_id] at hlt <;> omega
  · rintro _ j w1 ⟨rfl, he⟩
    have h3 : IntKind.i64.wrap ((b.len : Int) + 3) = ((x.length + 3 : Nat) : Int) := by rw [i64_id] <;> omega
    rw [h3]
    refine ⟨by omega, by omega, fun n i w' => ∃ k : Nat, i = ((x.length + k : Nat) : Int) ∧ n = 3 - k ∧ Ext w1 w', ⟨_, 0, by rw [hbl]; rfl, rfl, Upd.refl _ _⟩, ?_⟩
    rintro n i j w2 ⟨k, rfl, rfl, hu⟩
    simp only [Int.toNat_natCast, Nat.sub_zero, subA_zero]
    have hew : Ext w w2 := (e0.tr he).tr hu
    refine cnd_dec (fun hlt => ?_) (fun hge => ⟨by simp, hew⟩)
    have hk3 : k < 3 := by omega
    have hud : Ext w1 w2.drew := hu.drew
    have hbk := ((ho0.ext he).ext hud).blk
    have hcb := Ext.get (he.tr hud) b0
    rw [ho.a]
    refine ⟨by omega, by omega, c, ?_, c, cellsAt_blk hcb (fun j v hv => by rw [Nat.zero_add, List.getElem?_toArray]; exact hv), ?_⟩
    · rw [add_mk]
      refine cellsAt_blk hbk fun j v hv => ?_
      have hj : j < 4 := by have := (List.getElem?_eq_some_iff.1 hv).1; rw [encMv_len] at this; exact this
      rw [Nat.zero_add, List.getElem?_toArray, Nat.add_mul, ← hfl, List.getElem?_append_right (by omega), show (x.flatMap encMv).length + k * 4 + j - (x.flatMap encMv).length = k * 4 + j by omega]
      rw [reps_at (encMv_len c) hj 3 k hk3]; exact hv
    · rw [encMv_eq c c]
      simp only [decide_true, Bool.not_true]
      exact cnd_false ⟨3 - (k + 1), by omega, k + 1, by rw [i64_id] <;> omega, rfl, hud⟩
end Go.Proofs
