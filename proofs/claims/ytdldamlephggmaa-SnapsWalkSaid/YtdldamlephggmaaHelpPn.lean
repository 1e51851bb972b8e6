/- dunnagehelp over api_Pin: its contracts, written by a program (helpgen.py). Conditions: those of each contract. -/
import Derived.Test.YtdldamlephggmaaCond1
import Derived.Test.YtdldamlephggmaaCond2
import Derived.Test.YtdldamlephggmaaSnapsEnc
namespace Go.Proofs
open Go Go.Vc
theorem app_api_Pin : AppT Try.prog [T.sl_api_Pin, T.sl_api_Pin] T.api_Pin 2 16 [.int .i64 0, .int .i64 0] :=
  ⟨⟨T.sl_api_Pin, rfl, by kernel_rfl⟩, ⟨T.sl_api_Pin, _, rfl, by kernel_rfl, .inr ⟨T.api_Pin, rfl⟩⟩, by kernel_rfl, by kernel_rfl, by decide, by kernel_rfl, rfl, by
    intro v hv
    simp only [List.mem_cons, List.not_mem_nil, or_false] at hv
    rcases hv with rfl | rfl <;> rfl⟩
theorem one_api_Pin (l : List Pn) : ∀ v ∈ l.flatMap encPn, v.oneCell' = true := by
  intro v hv
  obtain ⟨m, _, hm⟩ := List.mem_flatMap.1 hv
  exact encPn_one m v hm

set_option maxHeartbeats 1000000 in
theorem dunnagehelp_Own_api_Pin.spec {w : World} {s : SV} {l : List Pn} (hs : RdS encPn 2 w s l) (hl : l.length * 16 ≤ 140737488351232) (c : Pn) :
    CallT [.one .slice] Try.prog F.dunnagehelp_Own_api_Pin [.slice s.a s.len s.cap, .agg (encPn c).toArray] w fun o w' =>
      o.len = l.length ∧ o.cap = l.length + 3 ∧ Ext w w' ∧ ∃ b, Spare w' w.heap.size T.api_Pin 2 o b (l.flatMap encPn) (reps 3 (encPn c)) := by
  have hlen := hs.len
  have h3 : IntKind.i64.wrap ((s.len : Int) + 3) = ((l.length + 3 : Nat) : Int) := by rw [i64_id] <;> omega
  refine dunnagehelp_Own_api_Pin.vc s c w _ ?_
  rw [h3]
  obtain ⟨e0, z0, b0⟩ := alloc_facts w (.cells (encPn c).toArray T.api_Pin)
  have hs0 := hs.ext e0
  generalize hw0 : w.alloc (.cells (encPn c).toArray T.api_Pin) = w0 at e0 z0 b0 hs0
  refine mkSV_own (bt := 16) (sz := 2) (by kernel_rfl : Try.prog.underlying T.sl_api_Pin = some (.slice T.api_Pin)) (by kernel_rfl) (by kernel_rfl) (by kernel_rfl : zeroL Try.prog T.api_Pin = some [.int .i64 0, .int .i64 0]) rfl (by omega) (by omega) (by omega) (by omega) ?_
  rw [show (Int.toNat 0) = 0 from rfl, Int.toNat_natCast]
  have hz : ([.int .i64 0, .int .i64 0] : List Value).length = 2 := rfl
  generalize ([.int .i64 0, .int .i64 0] : List Value) = z at hz ⊢
  have h0 : Spare (w0.alloc (.cells (reps (l.length + 3) z).toArray T.api_Pin)) w0.heap.size T.api_Pin 2 ⟨some ⟨w0.heap.size, 0, none⟩, 0, l.length + 3⟩ w0.heap.size [] (reps (l.length + 3) z) :=
    ⟨rfl, Nat.le_refl _, blk_new _ _, by simp, by rw [List.nil_append, reps_length, hz]⟩
  refine appV_fit app_api_Pin h0 ((hs0.ext (ext_alloc _ _)).rd.src (one_api_Pin l)) (by simp only; omega) ?_
  intro w1 h1 hu
  have he1 : Ext w0 w1 := (ext_alloc w0 _).trans hu fun x hx e => by omega
  have hfl : (l.flatMap encPn).length = l.length * 2 := flat_len encPn_len l
  have hdrop : (reps (l.length + 3) z).drop (l.flatMap encPn).length = reps 3 z := by rw [hfl]; exact reps_drop hz _ _
  simp only [List.nil_append, Nat.zero_add] at h1 ⊢
  rw [hdrop] at h1
  rw [hlen] at h1 ⊢
  have hw : IntKind.i64.wrap ((l.length : Int) + 3) = ((l.length + 3 : Nat) : Int) := by rw [i64_id] <;> omega
  simp only [Nat.sub_zero]
  refine ⟨by omega, by omega, fun n x w' => ∃ k : Nat, k ≤ 3 ∧ x = ((l.length + k : Nat) : Int) ∧ n = 3 - k ∧ Ext w0 w' ∧
      w'.heap[w0.heap.size]? = some (.cells (l.flatMap encPn ++ (reps k (encPn c) ++ reps (3 - k) z)).toArray T.api_Pin (0, 0)), ⟨_, 0, by omega, rfl, rfl, he1, h1.blk⟩, ?_⟩
  rintro n x j w' ⟨k, hk, rfl, rfl, he, hb⟩
  refine cnd_dec (fun hlt => ?_) (fun hge => ?_)
  · have hk3 : k < 3 := by omega
    have hbc := he.get b0
    refine ⟨c, cellsAt_blk hbc (fun j v hv => by rw [Nat.zero_add, List.getElem?_toArray]; exact hv), by omega, by omega, ?_⟩
    simp only [subA_zero, onP_some, Int.toNat_natCast, add_mk, Nat.zero_add]
    have hoff : (l.length + k) * 2 = (l.flatMap encPn).length + k * 2 := by rw [hfl, Nat.add_mul]
    have hroom : (l.length + k) * 2 + 2 ≤ (l.flatMap encPn ++ (reps k (encPn c) ++ reps (3 - k) z)).length := by
      rw [List.length_append, List.length_append, hfl, reps_length, reps_length, encPn_len, hz]
      omega
    refine ⟨canSt_blk hb hroom, 3 - (k + 1), by omega, k + 1, by omega, by rw [i64_id] <;> omega, rfl, ?_, ?_⟩
    · exact he.setCells (p := ⟨w0.heap.size, (l.length + k) * 2, none⟩) (fun h => by simp at h) 0 _
    · have h5 := setCells_blk (o := (l.length + k) * 2) (encPn c) w' 0 _ hb (by rw [Nat.add_zero, encPn_len]; exact hroom)
      rw [Nat.add_zero, hoff, spl_reps (encPn_len c) hz hk3] at h5
      rw [hoff]
      exact h5
  · have hk3 : k = 3 := by omega
    subst hk3
    exact ⟨trivial, trivial, e0.tr he, _, ⟨rfl, by omega, by simpa [reps] using hb, by simp [hfl], by rw [List.length_append, hfl, reps_length, encPn_len, Nat.add_mul]⟩⟩

theorem dunnagehelp_Plain_api_Pin_1.spec (a b : Pn) (w : World) :
    CallT [.one .bool] Try.prog F.dunnagehelp_Plain_api_Pin_1 [.agg (encPn a).toArray, .agg (encPn b).toArray] w fun r w' => r = decide (a = b) ∧ Ext w w' := by
  refine dunnagehelp_Plain_api_Pin_1.vc a b w _ ?_
  intro w1
  obtain ⟨e1, z1, b1⟩ := alloc_facts w (.cells (encPn a).toArray T.api_Pin)
  intro w2
  obtain ⟨e2, z2, b2⟩ := alloc_facts w1 (.cells (encPn b).toArray T.api_Pin)
  have b1 : w2.heap[w.heap.size]? = _ := e2.get b1
  exact ⟨a, cellsAt_blk b1 (fun j v hv => by rw [Nat.zero_add, List.getElem?_toArray]; exact hv), b, cellsAt_blk b2 (fun j v hv => by rw [Nat.zero_add, List.getElem?_toArray]; exact hv), encPn_eq a b, e1.tr e2⟩
theorem dunnagehelp_Plain_api_Pin.spec {a b : SV} {x y : List Pn} {w : World} (ha : RdS encPn 2 w a x) (hb : RdS encPn 2 w b y) (hx : x.length < 2 ^ 62) :
    CallT [.one .bool] Try.prog F.dunnagehelp_Plain_api_Pin [.slice a.a a.len a.cap, .slice b.a b.len b.cap] w fun r w' => r = decide (x = y) ∧ Ext w w' := by
  refine dunnagehelp_Plain_api_Pin.vc a b w _ (dunnagehelp_Same_api_Pin.vc a b _ w _ ?_)
  have hal := ha.len
  have hbl := hb.len
  refine cnd_bne (fun hne => ?_) (fun he => ?_)
  · have : x ≠ y := fun e => hne (by rw [hal, hbl, e])
    exact ⟨by simp [this], Upd.refl _ _⟩
  have hxy : x.length = y.length := by omega
  refine ⟨fun n i w' => ∃ k : Nat, i = k ∧ k ≤ x.length ∧ n = x.length - k ∧ Ext w w' ∧ x.take k = y.take k, ⟨_, 0, rfl, by omega, rfl, Upd.refl _ _, rfl⟩, ?_⟩
  rintro n i j w' ⟨k, rfl, hk, rfl, hu, hq⟩
  refine cnd_dec (fun hlt => ?_) (fun hge => ?_)
  · have hkx : k < x.length := by omega
    have hky : k < y.length := by omega
    have hw : Ext w w'.drew := hu.drew
    refine ⟨by omega, by omega, ha.get hkx fun A hA => ⟨x[k], (ha.ext hw).at_ (List.getElem?_eq_getElem hkx) hA, by omega, by omega,
      hb.get hky fun B hB => ⟨y[k], (hb.ext hw).at_ (List.getElem?_eq_getElem hky) hB, ?_⟩⟩⟩
    refine CallT.mono (dunnagehelp_Plain_api_Pin_1.spec x[k] y[k] w'.drew) ?_
    rintro _ w2 ⟨rfl, e2⟩
    refine cnd_not (fun hf => ?_) (fun ht => ?_)
    · refine ⟨?_, hw.tr e2⟩
      have : x ≠ y := by
        rintro rfl
        simp at hf
      simp [this]
    · have hb : x[k] = y[k] := of_decide_eq_true ht
      refine ⟨_, ?_, k + 1, by rw [i64_id] <;> omega, by omega, rfl, hw.tr e2, ?_⟩
      · omega
      · rw [List.take_add_one, List.take_add_one, hq, List.getElem?_eq_getElem hkx, List.getElem?_eq_getElem hky, hb]
  · have hk2 : k = x.length := by omega
    subst hk2
    rw [List.take_length, List.take_of_length_le (by omega)] at hq
    exact ⟨by simp [hq], hu⟩

theorem dunnagehelp_Kept_api_Pin.spec {o b : SV} {x y : List Pn} {w : World} {B g : Nat} {c : Pn} (ho : Spare w B T.api_Pin 2 o g (x.flatMap encPn) (reps 3 (encPn c))) (hb : RdS encPn 2 w b y) (hx : x.length < 2 ^ 62) :
    CallT [.one .bool] Try.prog F.dunnagehelp_Kept_api_Pin [.slice o.a o.len o.cap, .slice b.a b.len b.cap, .agg (encPn c).toArray] w fun r w' => r = decide (x = y) ∧ Ext w w' := by
  refine dunnagehelp_Kept_api_Pin.vc o b c w _ ?_
  have hfl : (x.flatMap encPn).length = x.length * 2 := flat_len encPn_len x
  have hol : o.len = x.length := by have := ho.len; omega
  have hoc : o.cap = x.length + 3 := by have := ho.cap; rw [List.length_append, hfl, reps_length, encPn_len] at this; omega
  have hbl := hb.len
  obtain ⟨e0, z0, b0⟩ := alloc_facts w (.cells (encPn c).toArray T.api_Pin)
  have ho0 := ho.ext e0
  have hb1 := hb.ext e0
  have hlt0 := ho.lt
  generalize hw0 : w.alloc (.cells (encPn c).toArray T.api_Pin) = w0 at e0 z0 b0 ho0 hb1
  refine ⟨fun _ w' => x = y ∧ Ext w0 w', ?_, ?_⟩
  · refine CallT.mono (dunnagehelp_Plain_api_Pin.spec (x := x) ⟨ho0.rd, encPn_len, by decide⟩ hb1 hx) ?_
    rintro _ w1 ⟨rfl, he⟩
    refine cnd_not (fun hf => ⟨hf.symm, e0.tr he⟩) (fun ht => ?_)
    have hxy : x = y := of_decide_eq_true ht
    subst hxy
    refine cnd_dec (fun hlt => ?_) (fun _ => ⟨rfl, he⟩)
    rw [i64_id] at hlt <;> omega
  · rintro _ j w1 ⟨rfl, he⟩
    have h3 : IntKind.i64.wrap ((b.len : Int) + 3) = ((x.length + 3 : Nat) : Int) := by rw [i64_id] <;> omega
    rw [h3]
    refine ⟨by omega, by omega, fun n i w' => ∃ k : Nat, i = ((x.length + k : Nat) : Int) ∧ n = 3 - k ∧ Ext w1 w', ⟨_, 0, by rw [hbl]; rfl, rfl, Upd.refl _ _⟩, ?_⟩
    rintro n i j w2 ⟨k, rfl, rfl, hu⟩
    simp only [Int.toNat_natCast, Nat.sub_zero, subA_zero]
    have hew : Ext w w2 := (e0.tr he).tr hu
    refine cnd_dec (fun hlt => ?_) (fun hge => ⟨by simp, hew⟩)
    have hk3 : k < 3 := by omega
    have hud : Ext w1 w2.drew := hu.drew
    have hbk := ((ho0.ext he).ext hud).blk
    have hcb := Ext.get (he.tr hud) b0
    rw [ho.a]
    refine ⟨by omega, by omega, c, ?_, c, cellsAt_blk hcb (fun j v hv => by rw [Nat.zero_add, List.getElem?_toArray]; exact hv), ?_⟩
    · rw [add_mk]
      refine cellsAt_blk hbk fun j v hv => ?_
      have hj : j < 2 := by have := (List.getElem?_eq_some_iff.1 hv).1; rw [encPn_len] at this; exact this
      rw [Nat.zero_add, List.getElem?_toArray, Nat.add_mul, ← hfl, List.getElem?_append_right (by omega), show (x.flatMap encPn).length + k * 2 + j - (x.flatMap encPn).length = k * 2 + j by omega]
      rw [reps_at (encPn_len c) hj 3 k hk3]; exact hv
    · rw [encPn_eq c c]
      simp only [decide_true, Bool.not_true]
      exact cnd_false ⟨3 - (k + 1), by omega, k + 1, by rw [i64_id] <;> omega, rfl, hud⟩

theorem slices_Clone_api_Pin_api_Pin.spec {s : SV} {x : List Pn} {w : World} (hs : RdS encPn 2 w s x) (hx : x.length * 16 ≤ 140737488351232) :
    CallT [.one .slice] Try.prog F.slices_Clone_api_Pin_api_Pin [.slice s.a s.len s.cap] w fun o w' => OwnS encPn 2 T.api_Pin w' w.heap.size o x ∧ Ext w w' ∧ (s.a ≠ none → o.a ≠ none) := by
  refine slices_Clone_api_Pin_api_Pin.vc s w _ ?_
  have hsl := hs.len
  cases ha : s.a with
  | none =>
    have hx0 : x = [] := by have := hs.rd.nil ha; rw [hsl] at this; exact List.eq_nil_of_length_eq_zero this
    subst hx0
    exact ⟨OwnS.nil encPn_len (by decide) _ _ _, Upd.refl _ _, fun h => absurd rfl h⟩
  | some A =>
    have h0 : Own (w.alloc (.cells #[] T.api_Pin)) w.heap.size T.api_Pin 2 ⟨some ⟨w.heap.size, 0, none⟩, 0, 0⟩ [] := Own.new w T.api_Pin 2 0 [] rfl
    have := app_rd (ty := T.sl_api_Pin) (K := fun s' w' => OwnS encPn 2 T.api_Pin w' w.heap.size s' x ∧ Ext w w' ∧ (some A ≠ none → s'.a ≠ none)) (t := s) app_api_Pin (ext_alloc w _) h0 (hs.ext (ext_alloc _ _)).rd (one_api_Pin x) (fun hlt => ?_) ?_
    · rw [ha] at this; exact this
    · simp only [Nat.zero_add] at hlt ⊢
      rw [nextcap_zero hlt]; omega
    · intro s' w' ho hu _ hn
      exact ⟨⟨ho, encPn_len, by decide⟩, hu, fun _ => hn (.inl (by simp))⟩
end Go.Proofs
