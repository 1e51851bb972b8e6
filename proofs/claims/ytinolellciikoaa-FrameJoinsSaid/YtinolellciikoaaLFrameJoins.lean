/- dunnagelaw06.FrameJoins: which frames are a record, and which one. Conditions: what came in is of the sizes that the form allows. -/
import Derived.Test.YtinolellciikoaaCond0
import Derived.Test.YtinolellciikoaaCond7
import Derived.Test.YtinolellciikoaaFrame9
namespace Go.Proofs
open Go Go.Vc
theorem wholeR_head {y : FrW} {r l : List FrW} (hl : l = y :: r) (h : WholeR l) : l.length ≤ 32 ∧ (∀ x ∈ l, x.data.length ≤ 440) ∧ (datas l).length ≤ 8192 ∧ cntF (datas l).length = l.length ∧ Likes y l := by
  obtain ⟨y', r', h1, h2⟩ := h
  rw [hl] at h1
  obtain ⟨rfl, rfl⟩ := by simpa using h1
  exact h2
theorem RdFr.slen {w : World} {s : SV} {l : List FrW} (h : RdFr w s l) : ∀ x ∈ l, x.s.len = x.data.length := fun x hx => (h.ok x hx).1.lenB
set_option maxRecDepth 100000 in
theorem ref06_Join.spec {w : World} {s : SV} {l : List FrW} (h : RdFr w s l) :
    CallT [.one .slice, .one (.int .i64)] Try.prog F.dunnageref06_Join [.slice s.a s.len s.cap] w fun r w' => OwnB w' w.heap.size r.1 (joinF l).1 ∧ r.2 = (joinF l).2 ∧ Ext w w' := by
  refine dunnageref06_Join.vc s w _ ?_
  have hsl := h.rd.len
  have no : ∀ {w' : World}, Ext w w' → ¬ WholeR l → OwnB w' w.heap.size ⟨none, 0, 0⟩ (joinF l).1 ∧ (11 : Int) = (joinF l).2 ∧ Ext w w' := fun e hn => by
    rw [joinF_no (fun hw => hn ((whole_iff h.slen).1 hw))]; exact ⟨Own.nil _ _ _ _, rfl, e⟩
  cases hl0 : l with
  | nil =>
    rw [← hl0]
    exact ⟨fun _ _ => False, cnd_pos (by simp [hsl, hl0]) (no (Upd.refl _ _) (by rintro ⟨y, r, h1, _⟩; rw [hl0] at h1; simp at h1)), fun _ _ _ hf => hf.elim⟩
  | cons y r =>
    rw [← hl0]
    have hn : 0 < l.length := by rw [hl0]; simp
    have hy : l[0]? = some y := by rw [hl0]; rfl
    have hyf := h.ok y (by rw [hl0]; simp)
    refine ⟨fun _ w' => w = w' ∧ l.length ≤ 32, cnd_neg (by simp only [beq_eq_false_iff_ne]; omega) (cnd_dec (fun hgt => no (Upd.refl _ _) fun hw => ?_) (fun hle => ⟨rfl, by omega⟩)), ?_⟩
    · have := (wholeR_head hl0 hw).1; omega
    rintro _ _ _ ⟨rfl, h32⟩
    refine ⟨fun m x w' => ∃ (i : Nat) (t : SV), x = (t, (i : Int)) ∧ i ≤ l.length ∧ m = l.length - i ∧ OwnB w' w.heap.size t (datas (l.take i)) ∧ (datas (l.take i)).length ≤ 440 * i ∧ (∀ x ∈ l.take i, x.data.length ≤ 440) ∧ Ext w w', ⟨_, 0, _, rfl, by omega, rfl, Own.nil _ _ _ _, by simp, by simp, Upd.refl _ _⟩, ?_⟩
    rintro m _ _ w1 ⟨i, t, rfl, hi, rfl, ht, htl, hdl, e1⟩
    dsimp only
    refine cnd_dec (fun hlt => ?_) (fun hge => ?_)
    · have hil : i < l.length := by omega
      have hx : l[i]? = some l[i] := List.getElem?_eq_getElem hil
      have hok := h.ok l[i] (List.getElem_mem hil)
      have hit : Int.toNat (i : Int) = i := Int.toNat_natCast i
      have hsd := hok.1.lenB
      have htlen := ht.lenB
      refine ⟨by omega, by omega, (h.ext e1).rd.get (i := i) hil fun A hA => ⟨l[i].s, ?_, ?_⟩⟩
      · rw [hit]; exact (h.ext e1).rd.at_ hx hA 3 _ rfl
      refine cnd_dec (fun hb => no e1 fun hw => ?_) (fun hb => ⟨by omega, by omega, (h.ext e1).rd.get (i := i) hil fun A hA => ⟨l[i].s, ?_, ?_⟩⟩)
      · have := (wholeR_head hl0 hw).2.1 _ (List.getElem_mem hil); omega
      · rw [hit]; exact (h.ext e1).rd.at_ hx hA 3 _ rfl
      refine app_rd appB e1 ht (hok.1.ext e1) (B8_one _) (fun hlt => ?_) ?_
      · have := nextcap_le hlt; omega
      intro t' w6 ho e6 hl6 _
      refine ⟨l.length - (i + 1), by omega, i + 1, t', ?_, by omega, rfl, ?_, ?_, ?_, e6⟩
      · rw [i64_id (by omega) (by omega)]; simp
      · show Own _ _ _ _ _ (B8 _); rw [datas_snoc hx, B8_append]; exact ho
      · rw [datas_snoc hx, List.length_append]; omega
      · intro x hx'
        rw [List.take_add_one, hx] at hx'
        rcases List.mem_append.1 hx' with hx' | hx'
        · exact hdl x hx'
        · obtain rfl := by simpa using hx'
          omega
    have hil : i = l.length := by omega
    subst hil
    rw [List.take_length] at ht htl hdl
    have htlen := ht.lenB
    refine cnd_dec (fun hb => no e1 fun hw => ?_) (fun hb => ?_)
    · have := (wholeR_head hl0 hw).2.2.1; omega
    have e1d := e1.tr (ext_drew w1)
    have htd := ht.ext (ext_drew w1)
    generalize w1.drew = w2 at *
    refine ⟨by omega, by omega, (h.ext e1d).rd.get (i := 0) hn fun A hA => ⟨(y.age : Int), (h.ext e1d).rd.at_ hy hA 0 _ rfl, by omega, by omega, (h.ext e1d).rd.get (i := 0) hn fun A hA => ⟨(y.first : Int), (h.ext e1d).rd.at_ hy hA 1 _ rfl, ?_⟩⟩⟩
    refine CallT.mono (ref06_Frames.spec hyf.2.1 hyf.2.2.1 htd.rd htd.cap_le (by omega)) ?_
    rintro q w3 ⟨L, hq, hL, hF, e3⟩
    have e03 := e1d.tr e3
    have hql := hq.own.len
    refine cnd_bne (fun hne => no e03 fun hw => ?_) (fun heq => ?_)
    · have := (wholeR_head hl0 hw).2.2.2.1; omega
    have hLl : L.length = l.length := by omega
    have ht3 := htd.ext e3
    refine ⟨fun m x w' => ∃ (i : Nat), x = (i : Int) ∧ i ≤ l.length ∧ m = l.length - i ∧ Ext w3 w' ∧ ∀ j (hj : j < l.length), j < i → l[j].age = y.age ∧ l[j].first = y.first ∧ l[j].of = (l.length : Int) ∧ l[j].data = piece (datas l) j, ⟨_, 0, rfl, by omega, rfl, Upd.refl _ _, fun j _ hj => by omega⟩, ?_⟩
    rintro m _ _ w4 ⟨i, rfl, hi, rfl, e4, hlik⟩
    have e04 := e03.tr e4
    refine cnd_dec (fun hlt => ?_) (fun hge => ?_)
    · have hil : i < l.length := by omega
      have hx : l[i]? = some l[i] := List.getElem?_eq_getElem hil
      have hxL : L[i]? = some L[i] := List.getElem?_eq_getElem (by omega)
      have hok := h.ok l[i] (List.getElem_mem hil)
      have hokL := hq.ok L[i] (List.getElem_mem (by omega))
      have hit : Int.toNat (i : Int) = i := Int.toNat_natCast i
      have e5 := e4.tr (ext_drew w4)
      have e05 := e03.tr e5
      generalize w4.drew = w5 at *
      refine ⟨by omega, by omega, (h.ext e05).rd.get (i := i) hil fun A hA => ⟨frOf l[i], ?_, by omega, by omega, (hq.ext e5).own.rd.get (i := i) (by omega) fun A hA => ⟨frOf L[i], ?_, ?_⟩⟩⟩
      · rw [hit]; exact (h.ext e05).rd.at_ hx hA
      · rw [hit]; exact (hq.ext e5).own.rd.at_ hxL hA
      refine CallT.mono (helpFrame.spec (x := frOf l[i]) (y := frOf L[i]) (hok.1.ext e05) (hokL.1.ext e5)) ?_
      rintro _ w6 ⟨rfl, e6⟩
      obtain ⟨f1, f2, f3, f4⟩ := hF i (by omega)
      simp only [frOf, f1, f2, f3, f4, hL] at *
      refine cnd_not (fun hf => no (e05.tr e6) fun hw => ?_) (fun hf => ?_)
      · have hk := (wholeR_head hl0 hw).2.2.2.2 ⟨i, hil⟩
        apply decide_eq_false_iff_not.1 hf
        obtain ⟨k1, k2, k3, k4⟩ := hk
        have k1' : l[i].age = y.age := k1
        have k2' : l[i].first = y.first := k2
        have k3' : l[i].of = (l.length : Int) := k3
        have k4' : l[i].data = piece (datas l) i := k4
        refine ⟨by rw [k1'], by rw [k2'], by rw [k3']; omega, k4'⟩
      · have hk := of_decide_eq_true hf
        refine ⟨l.length - (i + 1), by omega, i + 1, ?_, by omega, rfl, e5.tr e6, fun j hj hji => ?_⟩
        · rw [i64_id (by omega) (by omega)]; simp
        · by_cases hjj : j = i
          · subst hjj
            exact ⟨by exact_mod_cast hk.1, by exact_mod_cast hk.2.1, by omega, hk.2.2.2⟩
          · exact hlik j hj (by omega)
    · have hw : WholeR l := ⟨y, r, hl0, h32, hdl, by omega, by omega, fun j => hlik j.1 j.2 (by omega)⟩
      rw [joinF_yes ((whole_iff h.slen).2 hw)]
      exact ⟨ht3.ext e4, rfl, e04⟩
theorem dunnagelaw06_FrameJoins.spec {w : World} {s : SV} {l : List FrW} (h : RdFr w s l) :
    CallT [.one .bool] Try.prog F.dunnagelaw06_FrameJoins [.slice s.a s.len s.cap] w fun r w' => r = true ∧ Ext w w' := by
  refine dunnagelaw06_FrameJoins.vc s w _ ?_
  refine CallT.mono (frame_Join.spec h) ?_
  rintro ⟨b, e⟩ w1 ⟨hb, he, e1⟩
  dsimp only at hb he ⊢
  refine CallT.mono (ref06_Join.spec (h.ext e1)) ?_
  rintro ⟨c, f⟩ w2 ⟨hc, hf, e2⟩
  dsimp only at hc hf ⊢
  refine CallT.mono (awake06.spec w2) ?_
  rintro _ w3 ⟨rfl, e3⟩
  refine cnd_pos rfl (CallT.mono (dunnagehelp_Bytes.spec ((hb.rd.ext e2).ext e3) (hc.rd.ext e3)) ?_)
  rintro _ _ ⟨rfl, rfl⟩
  exact cnd_pos (by simp) ⟨by rw [he, hf]; simp, (e1.tr e2).tr e3⟩
theorem dunnagelaw06_FrameJoins.row {w : World} {a : Option Addr} {len cap : Nat} (h : DS.rel w (bdReach Try.prog) bsReach (.slice T.api_Frame 4 (.struct (.cons 0 1 (.int .u64) (.cons 1 1 (.int .u64) (.cons 2 1 (.int .i64) (.cons 3 1 (.slice T.uint8 1 (.int .u8)) .nil)))))) [.slice a len cap]) :
    CallT [.one .bool] Try.prog F.dunnagelaw06_FrameJoins [.slice a len cap] w fun r w' => r = true ∧ Ext w w' := by
  have hb : Try.prog.bytesOf T.uint8 = 1 := by kernel_rfl
  obtain ⟨l, hl, _⟩ := frs_rel (fun n hn => by unfold bdReach at hn; rw [hb, Nat.mul_one] at hn; exact hn) h
  exact dunnagelaw06_FrameJoins.spec hl
end Go.Proofs
