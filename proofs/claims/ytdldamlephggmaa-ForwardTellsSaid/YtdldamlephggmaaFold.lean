/- forward.Fold: what it makes of moves. Conditions: those of each lemma. -/
import Derived.Test.YtdldamlephggmaaCond2
import Derived.Test.YtdldamlephggmaaFwd
import Derived.Test.YtdldamlephggmaaMaps
namespace Go.Proofs
open Go Go.Vc
def seenM (prev : List Mv) (s : Int) : Bool := prev.any fun p => p.1 == s
def emit (all prev : List Mv) (m : Mv) : List Mv :=
  if seenM prev m.1 then [] else if whereM all m.1 m.2.1 = m.2.1 then [] else [(m.1, m.2.1, whereM all m.1 m.2.1, m.2.2.2)]
def foldK (l : List Mv) (i : Nat) : List Mv := (List.range i).flatMap fun k => emit l (l.take k) (l.getD k (0, 0, 0, 0))
def foldM (l : List Mv) : List Mv := foldK l l.length
theorem foldK_succ {l : List Mv} {i : Nat} {m : Mv} (h : l[i]? = some m) : foldK l (i + 1) = foldK l i ++ emit l (l.take i) m := by
  simp [foldK, List.range_succ, List.getD, h]
theorem emit_len (all prev : List Mv) (m : Mv) : (emit all prev m).length ≤ 1 := by
  unfold emit
  split
  · simp
  · split <;> simp
theorem foldK_len (l : List Mv) : ∀ i, (foldK l i).length ≤ i
  | 0 => by simp [foldK]
  | i + 1 => by
    have := foldK_len l i
    have h := emit_len l (l.take i) (l.getD i (0, 0, 0, 0))
    simp only [foldK, List.range_succ, List.flatMap_append, List.length_append] at this ⊢
    simp only [List.flatMap_cons, List.flatMap_nil, List.append_nil]
    omega
theorem seenM_succ {l : List Mv} {i : Nat} {m : Mv} (h : l[i]? = some m) (s : Int) : seenM (l.take (i + 1)) s = (seenM (l.take i) s || m.1 == s) := by
  rw [List.take_add_one, h, Option.toList_some]; simp [seenM]
/-- The set of the serial numbers that were met, as a map. -/
def seenF (prev : List Mv) : Value → Option Value
  | .int .u64 n => if seenM prev n then some (.bool true) else none
  | _ => none
theorem forward_Fold.spec {w : World} {s : SV} {l : List Mv} (hs : RdM w s l) (hl : l.length * 32 ≤ 140737488351232) :
    CallT [.one .slice] Try.prog F.forward_Fold [.slice s.a s.len s.cap] w fun o w' => OwnM w' w.heap.size o (foldM l) ∧ Ext w w' := by
  refine forward_Fold.vc s w _ ?_
  have hsl := hs.len
  have hu : Try.prog.underlying 64 = some (.map T.uint64 T.bool) := by kernel_rfl
  have hk : Try.prog.underlying T.uint64 = some (.int .u64) := by kernel_rfl
  refine mkMV_new ?_
  have hw0 : (w.alloc (.map #[] 0)).heap.size = w.heap.size + 1 := by simp
  have hs0 : RdM (w.alloc (.map #[] 0)) s l := hs.ext (ext_alloc _ _)
  have he0 := ext_alloc w (.map #[] 0)
  have hm0 := MapIs.empty w (.int .u64)
  generalize w.alloc (.map #[] 0) = w0 at *
  refine ⟨fun n x w' => ∃ i : Nat, x.2 = i ∧ i ≤ l.length ∧ n = l.length - i ∧ OwnM w' w0.heap.size x.1 (foldK l i) ∧ Upd (fun b => b = w.heap.size) w0 w' ∧ MapIs w' w.heap.size (.int .u64) (seenF (l.take i)), ?_, ?_⟩
  · refine ⟨_, 0, rfl, by omega, rfl, OwnS.nil encMv_len (by decide) _ _ _, Upd.refl _ _, ?_⟩
    have : seenF (l.take 0) = fun _ => none := by
      funext q; unfold seenF; split <;> simp [seenM]
    rw [this]; exact hm0
  rintro n ⟨o, i'⟩ j w1 ⟨i, h2, hi, rfl, ho, he, hm⟩
  dsimp only at h2 ho ⊢
  subst h2
  have hfin : ∀ {w'}, Upd (fun b => b = w.heap.size) w0 w' → Ext w w' := fun h => he0.trans h fun x hx e => by omega
  refine cnd_dec (fun hlt => ?_) (fun hge => ?_)
  · have hil : i < l.length := by omega
    have hx : l[i]? = some l[i] := List.getElem?_eq_getElem hil
    have hK := foldK_succ hx
    have hS := seenM_succ hx
    have hsk : ∀ {w'}, Upd (fun b => b = w.heap.size) w0 w' → RdM w' s l := fun h => hs.keep (hfin h) fun _ _ _ => id
    generalize l[i] = m at hx hK hS
    refine ⟨by omega, by omega, hs.get hil fun A hA => ⟨m, (hsk he).at_ hx hA, ?_⟩⟩
    refine ⟨canSt_fresh w1 T.api_Move [_, _, _, _] (Nat.le_refl 4), ?_⟩
    generalize hw2 : setCells _ _ _ _ = w2
    obtain ⟨e2, _, b2⟩ := fresh_of (T := T.api_Move) (vs := encMv m) hw2 rfl
    clear hw2
    have he2 := he.ext e2
    have hm2 := hm.ext e2
    have ho2 := ho.ext e2
    have hw : IntKind.i64.wrap ((i : Int) + 1) = ((i + 1 : Nat) : Int) := by rw [i64_id] <;> omega
    rw [add_mk, add_mk, add_mk]
    refine ⟨m.1, cell_blk b2, ?_⟩
    have hget : (seenF (l.take i) (.int .u64 m.1)).getD (.bool false) = .bool (seenM (l.take i) m.1) := by
      show (if seenM (l.take i) m.1 = true then some (Value.bool true) else none).getD _ = _
      cases h : seenM (l.take i) m.1 <;> simp
    refine lk_get (x := seenM (l.take i) m.1) hm2 hu hk rfl (z := .bool false) (zero_val (by kernel_rfl) w2) hget.symm rfl ?_
    refine cnd_intro (fun hse => ?_) (fun hse => ?_)
    · refine ⟨l.length - (i + 1), by omega, i + 1, hw, by omega, rfl, ?_, he2, ?_⟩
      · rw [hK, emit, if_pos hse, List.append_nil]; exact ho2
      · have : seenF (l.take (i + 1)) = seenF (l.take i) := by
          funext q
          unfold seenF
          split
          · rename_i q'
            rw [hS]
            by_cases hq : m.1 = q'
            · subst hq; simp [hse]
            · simp [hq]
          · rfl
        rw [this]; exact hm2
    · refine ⟨m.1, cell_blk b2, ?_⟩
      refine mup_set hm2 hu hk rfl (seenF (l.take (i + 1))) (by unfold seenF; simp [hS]) (fun q hq => ?_) ?_
      · unfold seenF
        split
        · rename_i q'
          have : ¬ m.1 = q' := fun h => hq (by rw [h])
          rw [hS]; simp [this]
        · rfl
      intro w3 e3 z3 hm3
      have hne : w1.heap.size ≠ w.heap.size := by have := he.size; omega
      have b3 : w3.heap[w1.heap.size]? = some (.cells (encMv m).toArray T.api_Move) := e3.get b2 hne
      have he3 : Upd (fun b => b = w.heap.size) w0 w3 := he2.tr e3
      have ho3 : OwnM w3 w0.heap.size o (foldK l i) := ⟨ho2.own.upd e3 fun b hb h => by have := ho2.own.blk_ge hb; omega, ho2.esz, ho2.pos⟩
      refine ⟨m.1, cell_blk b3, m.2.1, cell_blk b3, ?_⟩
      have c1 := forward_Where.spec (hsk he3) (by omega) m.1 m.2.1
      refine CallT.mono c1 ?_
      rintro _ w4 ⟨rfl, e4⟩
      have b4 := e4.get b3
      have he4 := he3.ext e4
      have ho4 := ho3.ext e4
      have hm4 := hm3.ext e4
      refine ⟨m.2.1, cell_blk b4, cnd_bne (fun hmv => ?_) (fun hst => ?_)⟩
      · refine ⟨m.1, cell_blk b4, m.2.1, cell_blk b4, m.2.2.2, cell_blk b4, ?_⟩
        have hol := ho4.len
        have hfl := foldK_len l i
        refine app_new' (vs := encMv (m.1, m.2.1, whereM l m.1 m.2.1, m.2.2.2)) appM he4 ho4.own rfl (by have := encMv_all [(m.1, m.2.1, whereM l m.1 m.2.1, m.2.2.2)]; simpa using this) (by omega) ?_
        intro s' w5 ho5 he5 hu5 _ _
        refine ⟨l.length - (i + 1), by omega, i + 1, hw, by omega, rfl, ⟨?_, encMv_len, by decide⟩, he5, ?_⟩
        · rw [hK, emit, if_neg (by simp [hse]), if_neg hmv, List.flatMap_append]
          simpa using ho5
        · exact hm4.upd hu5 fun hb => by have := ho4.own.blk_ge hb; omega
      · refine ⟨l.length - (i + 1), by omega, i + 1, hw, by omega, rfl, ?_, he4, hm4⟩
        rw [hK, emit, if_neg (by simp [hse]), if_pos hst, List.append_nil]; exact ho4
  · have : i = l.length := by omega
    subst this
    exact ⟨⟨ho.own.mono (by omega), ho.esz, ho.pos⟩, hfin he⟩
end Go.Proofs
