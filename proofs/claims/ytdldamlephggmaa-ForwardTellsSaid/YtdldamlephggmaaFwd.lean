/- forward.Where, the document's, what chapter 26 is awake by. Conditions: those of each contract. -/
import Derived.Test.YtdldamlephggmaaCond0
import Derived.Test.YtdldamlephggmaaCond2
import Derived.Test.YtdldamlephggmaaRows4
import Derived.Test.YtdldamlephggmaaCondF
namespace Go.Proofs
open Go Go.Vc
abbrev Mv := Int × Int × Int × Int
@[reducible] def encMv (m : Mv) : List Value := [.int .u64 m.1, .int .i64 m.2.1, .int .i64 m.2.2.1, .int .i64 m.2.2.2]
theorem encMv_len (m : Mv) : (encMv m).length = 4 := rfl
abbrev RdM (w : World) (s : SV) (l : List Mv) : Prop := RdS encMv 4 w s l
abbrev OwnM (w : World) (B : Nat) (s : SV) (l : List Mv) : Prop := OwnS encMv 4 T.api_Move w B s l
def stepM (serial : Int) (at_ : Int) (m : Mv) : Int := if m.1 = serial ∧ m.2.1 = at_ then m.2.2.1 else at_
def whereM (l : List Mv) (serial at_ : Int) : Int := l.foldl (stepM serial) at_
theorem whereM_append (a b : List Mv) (serial at_ : Int) : whereM (a ++ b) serial at_ = whereM b serial (whereM a serial at_) := by simp [whereM, List.foldl_append]
theorem whereM_take {l : List Mv} {i : Nat} {m : Mv} (h : l[i]? = some m) (serial at_ : Int) : whereM (l.take (i + 1)) serial at_ = stepM serial (whereM (l.take i) serial at_) m := by
  rw [List.take_add_one, h, Option.toList_some, whereM_append]; rfl
theorem forward_Where.spec {w : World} {s : SV} {l : List Mv} (hs : RdM w s l) (hl : l.length < 2 ^ 62) (serial at_ : Int) :
    CallT [.one (.int .i64)] Try.prog F.forward_Where [.slice s.a s.len s.cap, .int .u64 serial, .int .i64 at_] w fun r w' => r = whereM l serial at_ ∧ Ext w w' := by
  refine forward_Where.vc s serial at_ w _ ?_
  have hsl := hs.len
  refine ⟨fun n x w' => ∃ i : Nat, x.2 = i ∧ x.1 = whereM (l.take i) serial at_ ∧ i ≤ l.length ∧ n = l.length - i ∧ Ext w w', ⟨_, 0, rfl, rfl, by omega, rfl, Upd.refl _ _⟩, ?_⟩
  rintro n ⟨c, i'⟩ j w' ⟨i, h2, h1, hi, rfl, he⟩
  dsimp only at h1 h2 ⊢
  subst h1 h2
  refine cnd_dec (fun hlt => ?_) (fun hge => ?_)
  · have hil : i < l.length := by omega
    have hx : l[i]? = some l[i] := List.getElem?_eq_getElem hil
    have hst := whereM_take hx serial at_
    generalize l[i] = m at hx hst
    refine ⟨by omega, by omega, hs.get hil fun A hA => ⟨m, (hs.ext he).at_ hx hA, ?_⟩⟩
    refine ⟨canSt_fresh w' T.api_Move [_, _, _, _] (Nat.le_refl 4), ?_⟩
    generalize hw1 : setCells _ _ _ _ = w1
    obtain ⟨e1, _, b1⟩ := fresh_of (T := T.api_Move) (vs := encMv m) hw1 rfl
    have he1 := he.tr e1
    have hw : IntKind.i64.wrap ((i : Int) + 1) = ((i + 1 : Nat) : Int) := by rw [i64_id] <;> omega
    have done : ∀ c, c = stepM serial (whereM (l.take i) serial at_) m → ∃ k, k < l.length - i ∧ ∃ i' : Nat, (c, IntKind.i64.wrap ((i : Int) + 1)).2 = (i' : Int) ∧ (c, IntKind.i64.wrap ((i : Int) + 1)).1 = whereM (l.take i') serial at_ ∧ i' ≤ l.length ∧ k = l.length - i' ∧ Ext w w1 :=
      fun c hc => ⟨_, by omega, i + 1, hw, by rw [hst]; exact hc, by omega, rfl, he1⟩
    rw [add_mk, add_mk, add_mk]
    refine ⟨m.1, cell_blk b1, cnd_beq (fun h1 => ⟨m.2.1, cell_blk b1, cnd_beq (fun h2 => ⟨m.2.2.1, cell_blk b1, done _ ?_⟩) (fun h2 => done _ ?_)⟩) (fun h1 => done _ ?_)⟩
    · rw [stepM, if_pos ⟨h1, h2⟩]
    · rw [stepM, if_neg (fun h => h2 h.2)]; rfl
    · rw [stepM, if_neg (fun h => h1 h.1)]; rfl
  · have : i = l.length := by omega
    subst this
    rw [List.take_length]
    exact ⟨rfl, he⟩
theorem dunnagelaw26_awake.spec (w : World) : CallT [.one .bool] Try.prog F.dunnagelaw26_awake [] w fun r w' => r = true ∧ Ext w w' := by
  refine dunnagelaw26_awake.vc w _ ?_
  have h : RdM (w.alloc (.cells #[.int .u64 1, .int .i64 5, .int .i64 2, .int .i64 0] T.api_Move)) ⟨some ⟨w.heap.size, 0, none⟩, 1, 1⟩ [(1, 5, 2, 0)] :=
    ⟨(Own.new w T.api_Move 4 1 (encMv (1, 5, 2, 0)) rfl).rd, encMv_len, by decide⟩
  have c := forward_Where.spec h (by simp) 1 5
  refine CallT.mono c ?_
  rintro _ w1 ⟨rfl, e1⟩
  exact ⟨rfl, (ext_alloc _ _).tr e1⟩
theorem appM : AppT Try.prog [T.sl_api_Move, T.sl_api_Move] T.api_Move 4 32 [.int .u64 0, .int .i64 0, .int .i64 0, .int .i64 0] :=
  ⟨⟨T.sl_api_Move, rfl, by kernel_rfl⟩, ⟨T.sl_api_Move, _, rfl, by kernel_rfl, .inr ⟨T.api_Move, rfl⟩⟩, by kernel_rfl, by kernel_rfl, by decide, by kernel_rfl, rfl, by decide⟩
theorem encMv_all (l : List Mv) : ∀ v ∈ l.flatMap encMv, v.oneCell' = true := by
  intro v hv
  obtain ⟨m, _, hm⟩ := List.mem_flatMap.1 hv
  simp only [encMv, List.mem_cons, List.not_mem_nil, or_false] at hm
  rcases hm with rfl | rfl | rfl | rfl <;> rfl
theorem dunnagelaw26_ForwardBoth.spec {w : World} {s t : SV} {a b : List Mv} (hs : RdM w s a) (ht : RdM w t b) (ha : a.length ≤ 1048576) (hb : b.length ≤ 1048576) (serial at_ : Int) :
    CallT [.one .bool] Try.prog F.dunnagelaw26_ForwardBoth [.slice s.a s.len s.cap, .slice t.a t.len t.cap, .int .u64 serial, .int .i64 at_] w fun r w' => r = true ∧ Ext w w' := by
  refine dunnagelaw26_ForwardBoth.vc s t serial at_ w _ ?_
  have hsl := hs.len
  have htl := ht.len
  refine app_rd (s := ⟨none, 0, 0⟩) (cs := []) appM (Upd.refl (fun _ => False) _) (Own.nil _ _ _ _) hs.rd (encMv_all _) (fun hlt => ?_) ?_
  · simp only [Nat.zero_add] at hlt ⊢
    rw [nextcap_zero hlt, hsl]; omega
  intro s1 w1 h1 e1 hl1 _
  refine app_rd appM e1 h1 (ht.ext e1).rd (encMv_all _) (fun hlt => ?_) ?_
  · exact Nat.le_trans (Nat.mul_le_mul_right _ (nextcap_le hlt)) (by simp only [Nat.zero_add] at hl1; omega)
  intro s2 w2 h2 e2 hl2 _
  have hall : RdM w2 s2 (a ++ b) := ⟨by rw [List.flatMap_append]; exact h2.rd, encMv_len, by decide⟩
  have c1 := dunnagelaw26_awake.spec w2
  refine CallT.mono c1 ?_
  rintro _ w3 ⟨rfl, e3⟩
  have c2 := forward_Where.spec (hall.ext e3) (by simp; omega) serial at_
  refine cnd_true (CallT.mono c2 ?_)
  rintro _ w4 ⟨rfl, e4⟩
  have c3 := forward_Where.spec (hs.ext ((e2.tr e3).tr e4)) (by omega) serial at_
  refine CallT.mono c3 ?_
  rintro _ w5 ⟨rfl, e5⟩
  have c4 := forward_Where.spec (ht.ext (((e2.tr e3).tr e4).tr e5)) (by omega) serial (whereM a serial at_)
  refine CallT.mono c4 ?_
  rintro _ w6 ⟨rfl, e6⟩
  exact ⟨by rw [whereM_append]; simp, (((e2.tr e3).tr e4).tr e5).tr e6⟩
/-- What a row hands over of moves. -/
theorem rel_moves {w : World} {bd : TypeId → Nat → Prop} {bs : Nat → Prop} {a : Option Addr} {len cap : Nat}
    (h : DS.rel w bd bs (.slice T.api_Move 4 (.struct (.cons 0 1 (.int .u64) (.cons 1 1 (.int .i64) (.cons 2 1 (.int .i64) (.cons 3 1 (.int .i64) .nil)))))) [.slice a len cap]) :
    ∃ l : List Mv, RdM w ⟨a, len, cap⟩ l ∧ len ≤ cap ∧ (cap = 0 ∨ bd T.api_Move cap) := by
  have key : ∀ es : List Value, es.length = 4 → DS.rel w bd bs (.struct (.cons 0 1 (.int .u64) (.cons 1 1 (.int .i64) (.cons 2 1 (.int .i64) (.cons 3 1 (.int .i64) .nil))))) es → ∃ x, encMv x = es ∧ True := by
    intro es hl hr
    match es, hl with
    | [x, y, z, u], _ =>
      obtain ⟨⟨n0, h0, _⟩, ⟨n1, h1, _⟩, ⟨n2, h2, _⟩, ⟨n3, h3, _⟩, _⟩ := hr
      simp only [List.drop_zero, List.take_succ_cons, List.take_zero, List.drop_succ_cons, List.cons.injEq, and_true] at h0 h1 h2 h3
      subst h0 h1 h2 h3
      exact ⟨(n0, n1, n2, n3), rfl, trivial⟩
  obtain ⟨l, h1, h2, h3, _⟩ := DS.flat (enc := encMv) (fun _ => True) h encMv_len (by decide) key
  exact ⟨l, h1, h2, h3⟩
end Go.Proofs
