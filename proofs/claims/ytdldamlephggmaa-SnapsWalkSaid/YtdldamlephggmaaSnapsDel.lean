/- slices.IndexFunc, ContainsFunc, DeleteFunc over pins; snaps.Pin, Release, and the document's. Conditions: those of each contract. -/
import Derived.Test.YtdldamlephggmaaCond2
import Derived.Test.YtdldamlephggmaaSnaps
import Derived.Test.YtdldamlephggmaaHelpPn
namespace Go.Proofs
open Go Go.Vc
theorem slices_IndexFunc_api_Pin_api_Pin.spec {w : World} {s : SV} {l : List Pn} {f : Value} {p : Pn → Bool} (hs : RdP w s l) (hl : l.length < 2 ^ 62)
    (hf : ∀ x w', Ext w w' → callVal [.one .bool] Try.prog f [.agg (encPn x).toArray] w' fun r w2 => r = p x ∧ Ext w' w2) :
    CallT [.one (.int .i64)] Try.prog F.slices_IndexFunc_api_Pin_api_Pin [.slice s.a s.len s.cap, f] w fun r w' => Ext w w' ∧ ((∃ (i : Nat) (x : Pn), r = i ∧ l[i]? = some x ∧ p x = true ∧ ∀ y ∈ l.take i, p y = false) ∨ (r = -1 ∧ ∀ y ∈ l, p y = false)) := by
  refine slices_IndexFunc_api_Pin_api_Pin.vc s f w _ ?_
  have hsl := hs.len
  refine ⟨fun n x w' => ∃ i : Nat, x = (i : Int) ∧ i ≤ l.length ∧ n = l.length - i ∧ Ext w w' ∧ ∀ y ∈ l.take i, p y = false, ⟨_, 0, rfl, by omega, rfl, Upd.refl _ _, by simp⟩, ?_⟩
  rintro n _ _ w1 ⟨i, rfl, hi, rfl, e1, hno⟩
  refine cnd_dec (fun hlt => ?_) (fun hge => ?_)
  · have hil : i < l.length := by omega
    have hx : l[i]? = some l[i] := List.getElem?_eq_getElem hil
    generalize l[i] = x at hx
    have hw : IntKind.i64.wrap ((i : Int) + 1) = ((i + 1 : Nat) : Int) := by rw [i64_id] <;> omega
    refine ⟨by omega, by omega, hs.get hil fun A hA => ⟨x, (hs.ext e1).at_ hx hA, callVal.mono (hf x w1 e1) ?_⟩⟩
    rintro _ w2 ⟨rfl, e2⟩
    refine cnd_intro (fun ht => ⟨e1.tr e2, .inl ⟨i, x, rfl, hx, ht, hno⟩⟩) (fun hff => ⟨l.length - (i + 1), by omega, i + 1, hw, by omega, rfl, e1.tr e2, fun y hy => ?_⟩)
    rw [take_snoc hx] at hy
    rcases List.mem_append.1 hy with hy | hy
    · exact hno y hy
    · rw [List.mem_singleton] at hy; subst hy; exact hff
  · have : i = l.length := by omega
    subst this
    rw [List.take_length] at hno
    exact ⟨e1, .inr ⟨rfl, hno⟩⟩
theorem slices_ContainsFunc_api_Pin_api_Pin.spec {w : World} {s : SV} {l : List Pn} {f : Value} {p : Pn → Bool} (hs : RdP w s l) (hl : l.length < 2 ^ 62)
    (hf : ∀ x w', Ext w w' → callVal [.one .bool] Try.prog f [.agg (encPn x).toArray] w' fun r w2 => r = p x ∧ Ext w' w2) :
    CallT [.one .bool] Try.prog F.slices_ContainsFunc_api_Pin_api_Pin [.slice s.a s.len s.cap, f] w fun r w' => Ext w w' ∧ r = l.any p := by
  refine slices_ContainsFunc_api_Pin_api_Pin.vc s f w _ ?_
  refine CallT.mono (slices_IndexFunc_api_Pin_api_Pin.spec hs hl hf) ?_
  rintro r w1 ⟨e1, ⟨i, x, rfl, hx, hp, _⟩ | ⟨rfl, hno⟩⟩
  · refine ⟨e1, ?_⟩
    rw [List.any_eq_true.2 ⟨x, List.mem_of_getElem? hx, hp⟩]; simp
  · refine ⟨e1, ?_⟩
    rw [List.any_eq_false.2 fun y hy => by simp [hno y hy]]; rfl
theorem slices_DeleteFunc_api_Pin_api_Pin.spec {w : World} {s : SV} {l : List Pn} {f : Value} {p : Pn → Bool} {B : Nat} (hs : OwnS encPn 2 T.api_Pin w B s l) (hl : l.length < 2 ^ 62)
    (hf : ∀ x w', Upd s.blk w w' → callVal [.one .bool] Try.prog f [.agg (encPn x).toArray] w' fun r w2 => r = p x ∧ Ext w' w2) :
    CallT [.one .slice] Try.prog F.slices_DeleteFunc_api_Pin_api_Pin [.slice s.a s.len s.cap, f] w fun o w' => OwnS encPn 2 T.api_Pin w' B o (l.filter fun x => !p x) ∧ Upd s.blk w w' := by
  refine slices_DeleteFunc_api_Pin_api_Pin.vc s f w _ ?_
  have hsl := hs.len
  refine CallT.mono (slices_IndexFunc_api_Pin_api_Pin.spec hs.rd hl fun x w' e => hf x w' (e.to _)) ?_
  rintro r w1 ⟨e1, ⟨i0, x0, rfl, hx0, hp0, hno⟩ | ⟨rfl, hno⟩⟩
  · have hi0 : i0 < l.length := (List.getElem?_eq_some_iff.1 hx0).1
    have hw0 : IntKind.i64.wrap ((i0 : Int) + 1) = ((i0 + 1 : Nat) : Int) := by rw [i64_id] <;> omega
    have hf0 : (l.take i0).filter (fun x => !p x) = l.take i0 := List.filter_eq_self.2 fun y hy => by simp [hno y hy]
    refine cnd_beq (fun h => absurd h (by omega)) (fun _ => ⟨fun n x w' => ∃ (j : Nat) (L : List Pn), x = ((((l.take j).filter (fun x => !p x)).length : Int), (j : Int)) ∧ j ≤ l.length ∧ n = l.length - j ∧
      OwnS encPn 2 T.api_Pin w' B s L ∧ L.length = l.length ∧ ((l.take j).filter (fun x => !p x)).length ≤ j ∧ L.take ((l.take j).filter (fun x => !p x)).length = (l.take j).filter (fun x => !p x) ∧ L.drop j = l.drop j ∧ Upd s.blk w w', ?_, ?_⟩)
    · refine ⟨_, i0 + 1, l, ?_, by omega, rfl, hs.ext e1, rfl, ?_, ?_, rfl, e1.to _⟩
      · rw [take_snoc hx0, List.filter_append, hf0, hw0, List.length_append, List.length_take, Nat.min_eq_left (by omega)]
        simp [hp0]
      · rw [take_snoc hx0, List.filter_append, hf0, List.length_append, List.length_take, Nat.min_eq_left (by omega)]; simp [hp0]
      · rw [take_snoc hx0, List.filter_append, hf0]
        simp only [hp0, List.filter_cons, Bool.not_true, Bool.false_eq_true, if_false, List.filter_nil, List.append_nil, List.length_take]
        rw [Nat.min_eq_left (by omega)]
    · rintro n _ _ w2 ⟨j, L, rfl, hj, rfl, h2, hLl, hle, hLt, hLd, u2⟩
      dsimp only
      generalize hF : (l.take j).filter (fun x => !p x) = Fj at *
      refine cnd_dec (fun hlt => ?_) (fun hge => ?_)
      · have hjl : j < l.length := by omega
        have hx : l[j]? = some l[j] := List.getElem?_eq_getElem hjl
        generalize l[j] = x at hx
        have hLx : L[j]? = some x := by
          have : (L.drop j)[0]? = (l.drop j)[0]? := by rw [hLd]
          simpa [List.getElem?_drop, hx] using this
        have hw : IntKind.i64.wrap ((j : Int) + 1) = ((j + 1 : Nat) : Int) := by rw [i64_id] <;> omega
        have hwF : IntKind.i64.wrap ((Fj.length : Int) + 1) = ((Fj.length + 1 : Nat) : Int) := by rw [i64_id] <;> omega
        have hdrop : L.drop (j + 1) = l.drop (j + 1) := by rw [← List.drop_drop, hLd, List.drop_drop]
        refine ⟨by omega, by omega, h2.rd.get (i := j) (by omega) fun A hA => ⟨x, h2.rd.at_ hLx hA, ?_⟩⟩
        generalize hc : w2.alloc _ = w3
        generalize hd : setCells w3 _ 0 _ = w4
        obtain ⟨c4, b4, e4, z4⟩ := bk_mk (T := T.api_Pin) (z := [.int .i64 0, .int .i64 0]) (vs := encPn x) hc hd rfl
        have u4 : Upd s.blk w w4 := u2.trans e4 fun _ _ h => h.elim
        refine ⟨c4, x, b4.all, callVal.mono (hf x w4 u4) ?_⟩
        rintro _ w5 ⟨rfl, e5⟩
        have u5 : Upd s.blk w w5 := u4.trans e5 fun _ _ h => h.elim
        have h5 := (h2.ext e4).ext e5
        refine cnd_not (fun hpf => ⟨x, (b4.ext e5).all, by omega, by omega, h5.rd.get (i := Fj.length) (by omega) fun A' hA' => ?_⟩) (fun hpt => ?_)
        · obtain ⟨cs, h6, z6, u6⟩ := h5.setx (i := Fj.length) (by omega) hA' x
          have hF' : (l.take (j + 1)).filter (fun x => !p x) = Fj ++ [x] := by rw [take_snoc hx, List.filter_append, hF]; simp [hpf]
          refine ⟨cs, l.length - (j + 1), by omega, j + 1, L.set Fj.length x, ?_, by omega, rfl, h6, by rw [List.length_set, hLl], ?_, ?_, ?_, u5.tr u6⟩
          · rw [hF', hw, hwF, List.length_append]; rfl
          · rw [hF', List.length_append]; simp; omega
          · rw [hF', List.length_append, List.length_singleton, List.take_add_one, List.getElem?_set_self (by omega), Option.toList_some, List.take_set_of_le (by omega), hLt]
          · rw [List.drop_set_of_lt (by omega), hdrop]
        · have hF' : (l.take (j + 1)).filter (fun x => !p x) = Fj := by rw [take_snoc hx, List.filter_append, hF]; simp [hpt]
          refine ⟨l.length - (j + 1), by omega, j + 1, L, ?_, by omega, rfl, h5, hLl, by rw [hF']; omega, by rw [hF']; exact hLt, hdrop, u5⟩
          rw [hF', hw]
      · have : j = l.length := by omega
        subst this
        rw [List.take_length] at hF
        have hcap := h2.own.cap_le
        refine ⟨by omega, by omega, ?_⟩
        simp only [Int.toNat_natCast]
        have h2s : Own w2 B T.api_Pin 2 s (Fj.flatMap encPn ++ (L.drop Fj.length).flatMap encPn) := by
          have hq : Fj ++ L.drop Fj.length = L := by
            have := List.take_append_drop Fj.length L
            rwa [hLt] at this
          rw [← List.flatMap_append, hq]; exact h2.own
        refine clrV_own (B := B) (sz := 2) (z := [.int .i64 0, .int .i64 0]) (by kernel_rfl) (by kernel_rfl) rfl (by intro v hv; simp only [List.mem_cons, List.not_mem_nil, or_false] at hv; rcases hv with rfl | rfl <;> rfl) h2s (flat_len encPn_len _) (by omega) ?_
        intro w3 h3 u3 _
        refine ⟨by omega, by omega, ?_, u2.tr u3⟩
        rw [hF] at *
        refine ⟨?_, encPn_len, by decide⟩
        simpa [subA_zero] using h3
  · refine cnd_beq (fun _ => ⟨?_, e1.to _⟩) (fun h => absurd rfl h)
    rw [List.filter_eq_self.2 fun y hy => by simp [hno y hy]]
    exact hs.ext e1
end Go.Proofs
