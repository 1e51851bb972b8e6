/- forward.Apply; the walk of dunnagelaw26.ForwardTells: it answers true, and turns nothing that was there. Conditions: those of each contract. -/
import Derived.Test.YtdldamlephggmaaCond0
import Derived.Test.YtdldamlephggmaaCond2
import Derived.Test.YtdldamlephggmaaFwdRef
import Derived.Test.YtdldamlephggmaaSetS
namespace Go.Proofs
open Go Go.Vc
theorem forward_Apply.spec {w : World} {s t : SV} {l : List Mv} {en : List En} (ht : RdS encEn 4 w t en) (hs : RdM w s l) (hl : l.length < 2 ^ 62) (hen : en.length * 40 ≤ 140737488351232) :
    CallT [.one .slice] Try.prog F.forward_Apply [.slice t.a t.len t.cap, .slice s.a s.len s.cap] w fun o w' => OwnS encEn 4 T.api_Entry w' w.heap.size o (applyM en l) ∧ Ext w w' := by
  refine forward_Apply.vc t s w _ ?_
  refine CallT.mono (slices_Clone_api_Entry_api_Entry.spec ht hen) ?_
  rintro o w1 ⟨ho, e1, _⟩
  have hol := ho.len
  refine ⟨fun n x w' => ∃ i : Nat, x = i ∧ i ≤ en.length ∧ n = en.length - i ∧ OwnS encEn 4 T.api_Entry w' w.heap.size o (applyM (en.take i) l ++ en.drop i) ∧ Ext w w', ⟨_, 0, rfl, by omega, rfl, ho, e1⟩, ?_⟩
  rintro n _ j w2 ⟨i, rfl, hi, rfl, h2, e2⟩
  refine cnd_dec (fun hlt => ?_) (fun hge => ?_)
  · have hil : i < en.length := by omega
    have hx : en[i]? = some en[i] := List.getElem?_eq_getElem hil
    have hal : (applyM (en.take i) l).length = i := by simp [applyM]; omega
    have hT : applyM (en.take (i + 1)) l = applyM (en.take i) l ++ [apply1 l en[i]] := by simp only [applyM]; rw [List.take_add_one, hx, Option.toList_some, List.map_append]; rfl
    have hD : en.drop i = en[i] :: en.drop (i + 1) := List.drop_eq_getElem_cons hil
    generalize en[i] = e at hx hT hD
    have hx2 : (applyM (en.take i) l ++ en.drop i)[i]? = some e := by
      rw [List.getElem?_append_right (by omega), hal, Nat.sub_self, hD]; rfl
    have hw : IntKind.i64.wrap ((i : Int) + 1) = ((i + 1 : Nat) : Int) := by rw [i64_id] <;> omega
    have h2d := h2.ext (ext_drew w2)
    refine ⟨by omega, by omega, h2.rd.get (i := i) (by simp [hal]; omega) fun A hA => ?_⟩
    have key : ∀ (k : Nat) (v : Value), (encEn e)[k + 1]? = some v → ∀ w', OwnS encEn 4 T.api_Entry w' w.heap.size o (applyM (en.take i) l ++ en.drop i) → w'.cell? (((A.add ((i : Int).toNat * 4)).add 1).add k) = some v := fun k v hv w' hw' => by
      rw [add_add _ 1 k, Nat.add_comm 1 k]
      exact hw'.rd.fld hx2 hA hv
    refine ⟨fun w' => OwnS encEn 4 T.api_Entry w' w.heap.size o (applyM (en.take i) l ++ en.drop i), h2d, e.2.1, key 0 _ rfl, e.2.2.1, key 1 _ rfl, ?_⟩
    refine CallT.mono (forward_Where.spec (hs.ext e2.drew) hl e.2.1 e.2.2.1) ?_
    rintro _ w3 ⟨rfl, e3⟩
    have h3 := h2d.ext e3
    obtain ⟨a, b, h4, z4, u4⟩ := h3.setf hx2 hA (k := 2) (by decide) (v := .int .i64 (whereM l e.2.1 e.2.2.1)) (y := apply1 l e) rfl
    rw [add_add _ 1 1]
    refine ⟨a, b, en.length - (i + 1), by omega, i + 1, hw, by omega, rfl, ?_, ?_⟩
    · have : (applyM (en.take i) l ++ en.drop i).set i (apply1 l e) = applyM (en.take (i + 1)) l ++ en.drop (i + 1) := by
        rw [List.set_append_right _ _ (by omega), hal, Nat.sub_self, hD, hT]; simp
      rw [← this]; exact h4
    · exact ((e2.drew).tr e3).newS (fun b hb => h3.own.blk_ge hb) u4
  · have : i = en.length := by omega
    subst this
    rw [List.take_length, List.drop_length, List.append_nil] at h2
    exact ⟨h2, e2⟩
theorem foldM_len (l : List Mv) : (foldM l).length ≤ l.length := foldK_len l l.length
theorem dunnagelaw26_ForwardTells.spec {w : World} {s t : SV} {l : List Mv} {en : List En} (hs : RdM w s l) (ht : RdS encEn 4 w t en) (hl : l.length * 32 ≤ 140737488351232) (hen : en.length * 40 ≤ 140737488351232) (serial at_ : Int) :
    CallT [.one .bool] Try.prog F.dunnagelaw26_ForwardTells [.slice s.a s.len s.cap, .int .u64 serial, .int .i64 at_, .slice t.a t.len t.cap] w fun r w' => r = true ∧ Ext w w' := by
  refine dunnagelaw26_ForwardTells.vc s serial at_ t w _ ?_
  refine CallT.mono (dunnagehelp_Own_api_Move.spec hs hl (71, 0, 0, 0)) ?_
  rintro x w1 ⟨xl, xc, e1, bx, hx⟩
  refine CallT.mono (dunnagehelp_Own_api_Entry.spec (ht.ext e1) hen (⟨#[55, 49]⟩, 0, 0, 0)) ?_
  rintro y w2 ⟨yl, yc, e2, b_y, hy⟩
  have e12 := e1.tr e2
  refine CallT.mono (dunnagelaw26_awake.spec w2) ?_
  rintro _ w3 ⟨rfl, e3⟩
  have e13 := e12.tr e3
  have hx3 : RdM w3 x l := ⟨((hx.ext e2).ext e3).rd, encMv_len, by decide⟩
  refine cnd_true (CallT.mono (forward_Where.spec hx3 (by omega) serial at_) ?_)
  rintro _ w4 ⟨rfl, e4⟩
  have e14 := e13.tr e4
  refine CallT.mono (dunnageref26_Where.spec (hs.ext e14) (by omega) serial at_) ?_
  rintro _ _ ⟨rfl, rfl⟩
  refine cnd_pos (by simp) (CallT.mono (forward_Fold.spec (hx3.ext e4) hl) ?_)
  rintro f w5 ⟨hf, e5⟩
  have e15 := e14.tr e5
  refine CallT.mono (dunnageref26_Fold.spec (hs.ext e15) hl) ?_
  rintro g w6 ⟨hg, e6⟩
  have e16 := e15.tr e6
  refine CallT.mono (dunnagehelp_Plain_api_Move.spec (hf.ext e6).rd hg.rd (by have := foldM_len l; omega)) ?_
  rintro _ w7 ⟨rfl, e7⟩
  have e17 := e16.tr e7
  have hx7 := ((((hx3.ext e4).ext e5).ext e6).ext e7)
  have hy7 := (((((hy.ext e3).ext e4).ext e5).ext e6).ext e7)
  have hy7r : RdS encEn 4 w7 y en := ⟨hy7.rd, encEn_len, by decide⟩
  refine cnd_pos (by simp) (CallT.mono (forward_Apply.spec hy7r hx7 (by omega) hen) ?_)
  rintro a w8 ⟨ha, e8⟩
  have e18 := e17.tr e8
  refine CallT.mono (dunnageref26_Apply.spec (ht.ext e18) (hs.ext e18) (by omega) hen) ?_
  rintro c w9 ⟨hc, e9⟩
  have e19 := e18.tr e9
  refine CallT.mono (dunnagehelp_Plain_api_Entry.spec (ha.ext e9).rd hc.rd (by simp [applyM]; omega)) ?_
  rintro _ w10 ⟨rfl, e10⟩
  have e110 := e19.tr e10
  have e210 := ((((((e3.tr e4).tr e5).tr e6).tr e7).tr e8).tr e9).tr e10
  refine cnd_pos (by simp) (CallT.mono (dunnagehelp_Kept_api_Move.spec ((hx.ext e2).ext e210) (hs.ext e110) (by omega)) ?_)
  rintro _ w11 ⟨rfl, e11⟩
  refine cnd_pos (by simp) (CallT.mono (dunnagehelp_Kept_api_Entry.spec ((hy.ext e210).ext e11) (ht.ext (e110.tr e11)) (by omega)) ?_)
  rintro _ w12 ⟨rfl, e12⟩
  exact ⟨by simp, (e110.tr e11).tr e12⟩

abbrev dsMovesT : DS := .slice T.api_Move 4 (.struct (.cons 0 1 (.int .u64) (.cons 1 1 (.int .i64) (.cons 2 1 (.int .i64) (.cons 3 1 (.int .i64) .nil)))))
abbrev dsEnt : DS := .struct (.cons 0 1 .string (.cons 1 3 (.struct (.cons 0 1 (.int .u64) (.cons 1 1 (.int .i64) (.cons 2 1 (.int .i64) .nil)))) .nil))
theorem entries_reach {w : World} {a : Option Addr} {len cap : Nat} (h : DS.rel w (bdReach Try.prog) bsReach (.slice T.api_Entry 4 dsEnt) [.slice a len cap]) :
    ∃ l : List En, RdS encEn 4 w ⟨a, len, cap⟩ l ∧ len ≤ cap ∧ cap * 40 ≤ 140737488351232 := by
  have key : ∀ es : List Value, es.length = 4 → DS.rel w (bdReach Try.prog) bsReach dsEnt es → ∃ x, encEn x = es ∧ True := by
    intro es hl hr
    match es, hl with
    | [x, y, z, u], _ =>
      obtain ⟨⟨s, h0, _⟩, ⟨⟨n1, h1, _⟩, ⟨n2, h2, _⟩, ⟨n3, h3, _⟩, _⟩, _⟩ := hr
      simp only [List.drop_zero, List.take_succ_cons, List.take_zero, List.drop_succ_cons, List.cons.injEq, and_true] at h0 h1 h2 h3
      subst h0 h1 h2 h3
      exact ⟨(s, n1, n2, n3), rfl, trivial⟩
  obtain ⟨l, h1, h2, h3, _⟩ := DS.flat (enc := encEn) (fun _ => True) h encEn_len (by decide) key
  refine ⟨l, h1, h2, ?_⟩
  rcases h3 with h3 | h3
  · omega
  · have hb : Try.prog.bytesOf T.api_Entry = 40 := by kernel_rfl
    unfold bdReach at h3
    rw [hb] at h3
    exact h3
theorem moves_reachT {w : World} {a : Option Addr} {len cap : Nat} (h : DS.rel w (bdReach Try.prog) bsReach dsMovesT [.slice a len cap]) : ∃ l : List Mv, RdM w ⟨a, len, cap⟩ l ∧ len ≤ cap ∧ cap * 32 ≤ 140737488351232 := by
  obtain ⟨l, h1, h2, h3⟩ := rel_moves h
  refine ⟨l, h1, h2, ?_⟩
  rcases h3 with h3 | h3
  · omega
  · have hb : Try.prog.bytesOf T.api_Move = 32 := by kernel_rfl
    unfold bdReach at h3
    rw [hb] at h3
    exact h3
theorem dunnagelaw26_ForwardTells.row {w : World} {a0 a3 : Option Addr} {len0 cap0 len3 cap3 : Nat} (h0 : DS.rel w (bdReach Try.prog) bsReach dsMovesT [.slice a0 len0 cap0]) (h3 : DS.rel w (bdReach Try.prog) bsReach (.slice T.api_Entry 4 dsEnt) [.slice a3 len3 cap3]) (serial at_ : Int) :
    CallT [.one .bool] Try.prog F.dunnagelaw26_ForwardTells [.slice a0 len0 cap0, .int .u64 serial, .int .i64 at_, .slice a3 len3 cap3] w fun r w' => r = true ∧ Ext w w' := by
  obtain ⟨l, hl, hc, hb⟩ := moves_reachT h0
  obtain ⟨en, he, hd, hf⟩ := entries_reach h3
  have h1 := hl.len
  have h2 := he.len
  simp only at h1 h2
  exact dunnagelaw26_ForwardTells.spec hl he (by omega) (by omega) serial at_
end Go.Proofs
