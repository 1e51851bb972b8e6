/- Code and functions: what 'vc' asks is enough for the model's calls: 'fnV_sound'. Conditions: none. -/
import Derived.Test.YtinolellciikoaaVcSound4
import Derived.Test.YtinolellciikoaaVcOrd
import Derived.StillTail
import Derived.OrdersHeld
namespace Go.Vc
open Go

def QA (n : Nat) (ws : List Nat) (fr : Fr) (Q : Exit → Fr → World → Prop) : Exit → Act → World → Prop :=
  fun e a w => ∃ fr', Rep n a fr' ∧ agree ws fr fr' ∧ Q e fr' w

theorem lget_hav (j : Nat → Value) : ∀ (ws : List Nat) (fr : Fr) (i : Nat), lget (hav j ws fr) i = if memN i ws = true then j i else lget fr i
  | [], fr, i => by simp [hav, memN]
  | k :: r, fr, i => by
    simp only [hav, lget_cons, lget_hav j r fr i]
    by_cases hk : k = i
    · subst hk
      have : memN k (k :: r) = true := memN_mem (by simp)
      simp [this]
    · rw [if_neg hk]
      have hb : Nat.beq i k = false := by
        cases hb : Nat.beq i k with
        | false => rfl
        | true => exact absurd (Nat.eq_of_beq_eq_true hb).symm hk
      have : memN i (k :: r) = memN i r := by simp only [memN, hb]
      rw [this]
theorem hav_eq {ws : List Nat} {fr fr' : Fr} (h : agree ws fr fr') : ∀ i, lget (hav (lget fr') ws fr) i = lget fr' i := by
  intro i
  rw [lget_hav]
  split
  · rfl
  · rename_i hm; rw [h i (by simpa using hm)]
theorem agree_hav (ws : List Nat) (j : Nat → Value) (fr : Fr) : agree ws fr (hav j ws fr) := by
  intro i hi
  rw [lget_hav, hi]; simp
theorem agree_setS {ws : List Nat} : ∀ (l : List (Nat × Ty)) (x : Tys (l.map Prod.snd)) (fr fr' : Fr), slotsIn ws l = true → agree ws fr fr' → agree ws fr (setS l x fr')
  | [], _, _, _, _, h => h
  | [(i, t)], x, fr, fr', hs, h => by
    have hm : memN i ws = true := by unfold slotsIn at hs; cases hq : memN i ws <;> simp_all
    exact h.lset hm _
  | (i, t) :: p :: r, x, fr, fr', hs, h => by
    have hm : memN i ws = true := by unfold slotsIn at hs; cases hq : memN i ws <;> simp_all
    have hs' : slotsIn ws (p :: r) = true := by unfold slotsIn at hs; rw [hm] at hs; exact hs
    exact agree_setS (p :: r) x.2 fr _ hs' (h.lset hm _)
theorem setS_self : ∀ (l : List (Nat × Ty)) (x : Tys (l.map Prod.snd)) (fr fr' : Fr), (l.map fun p => lget fr p.1) = encTys (l.map Prod.snd) x → (∀ i, lget fr' i = lget fr i) → ∀ i, lget (setS l x fr') i = lget fr i
  | [], _, _, _, _, he => he
  | [(i, t)], x, fr, fr', h, he => by
    have h' : [lget fr i] = [t.enc x] := h
    intro k
    show lget (lset fr' i (t.enc x)) k = _
    rw [lget_lset, ← (List.cons.inj h').1]
    split
    · rename_i e; rw [e]
    · exact he k
  | (i, t) :: p :: r, x, fr, fr', h, he => by
    have h' : lget fr i :: ((p :: r).map fun p => lget fr p.1) = t.enc x.1 :: encTys ((p :: r).map Prod.snd) x.2 := h
    show ∀ k, lget (setS (p :: r) x.2 (lset fr' i (t.enc x.1))) k = _
    refine setS_self (p :: r) x.2 fr _ (List.cons.inj h').2 fun k => ?_
    rw [lget_lset, ← (List.cons.inj h').1]
    split
    · rename_i e; rw [e]
    · exact he k
theorem getS_elim {l : List (Nat × Ty)} {fr : Fr} {K : Tys (l.map Prod.snd) → Prop} (h : getS l fr K) : ∃ x, (∀ fr', (∀ i, lget fr' i = lget fr i) → ∀ i, lget (setS l x fr') i = lget fr i) ∧ K x := by
  obtain ⟨x, hx, hk⟩ := decTys_elim _ _ _ h
  exact ⟨x, fun fr' he => setS_self l x fr fr' hx he, hk⟩

theorem exists_least {p : Nat → Prop} (h : ∃ n, p n) : ∃ n, p n ∧ ∀ m, p m → n ≤ m := by
  obtain ⟨n, hn⟩ := h
  induction n using Nat.strongRecOn with
  | _ n ih =>
    by_cases hm : ∃ m, m < n ∧ p m
    · obtain ⟨m, hlt, hp⟩ := hm
      exact ih m hlt hp
    · exact ⟨n, hn, fun m hp => Nat.le_of_not_lt fun hlt => hm ⟨m, hlt, hp⟩⟩
open Classical in
noncomputable def least (p : Nat → Prop) : Nat := if h : ∃ n, p n ∧ ∀ m, p m → n ≤ m then Classical.choose h else 0
theorem least_spec {p : Nat → Prop} (h : ∃ n, p n) : p (least p) ∧ ∀ m, p m → least p ≤ m := by
  have := exists_least h
  unfold least
  rw [dif_pos this]
  exact Classical.choose_spec this

def NoP (Q : Exit → Act → World → Prop) : Exit → Act → World → Prop
  | .panic _, _, _ => False
  | e, a, w => Q e a w
theorem NoP.imp {Q : Exit → Act → World → Prop} : ∀ (e : Exit) (a : Act) (w : World), NoP Q e a w → Q e a w := fun e a w h => by cases e <;> first | exact h | exact h.elim
theorem ldH_sound {S : World → Prop} {A : Addr} : ∀ {T : Ty} {K : T.T → Prop}, ldH S A T K → ∃ x, (∀ w, S w → ldV w A T fun y => y = x) ∧ K x
  | .one _, _, ⟨x, hx, hk⟩ => ⟨x, fun w hs => ⟨x, hx w hs, rfl⟩, hk⟩
  | .agg _, _, ⟨x, hx, hk⟩ => ⟨x, fun w hs => ⟨x, hx w hs, rfl⟩, hk⟩
  | .big _, _, ⟨x, hn, hx, hk⟩ => ⟨x, fun w hs => ⟨x, hn, hx w hs, rfl⟩, hk⟩
theorem ask_elim {b : Bool} {x y : Prop} (h : ask b x y) : (b = true → x) ∧ y := by
  cases b with
  | false => exact ⟨fun h => (by cases h), h⟩
  | true => exact ⟨fun _ => h.1, h.2⟩
theorem take_need {P : Program} {ops : Array Oper} {i : Nat} {o : Oper} (ho : ops[i]? = some o) (h : takeOp P o = true) : needL P ops.toList i = false := by
  have ho' : ops.toList[i]? = some o := by simpa using ho
  simp [needL, ho', h]
/-- Behind an operation that needs nothing each load has come. -/
theorem need_loads {P : Program} {ops : Array Oper} {listed : Array Bool} {L i : Nat} {o : Oper} (hs : listed.size = ops.size) (hm : Masks listed L) (ho : ops[i]? = some o) (ht : takeOp P o = false) (hr : rdy L i o = true)
    (hn : needL P ops.toList i = false) : ∀ k ok, ops[k]? = some ok → isLoad ok = true → (listed.setIfInBounds i true).getD k true = true := by
  intro k ok hk hl
  have ho' : ops.toList[i]? = some o := by simpa using ho
  simp only [needL, ho', ht] at hn
  have h1 := needFrom_elim ops.toList 0 hn k ok (by simpa using hk) hl
  rw [Nat.zero_add] at h1
  unfold rdy at hr
  split at hr
  · simp at hr
  · have h2 := Nat.eq_of_beq_eq_true hr
    have h3 : (Nat.land (emask o) L).testBit k = ((emask o).testBit k && L.testBit k) := Nat.testBit_and _ _ _
    rw [h2, h1] at h3
    have hkL : L.testBit k = true := by simpa using h3.symm
    have hkl : k < listed.size := by rw [hs]; exact (Array.getElem?_eq_some_iff.1 hk).1
    by_cases hik : i = k
    · subst hik
      simp only [Array.getD_eq_getD_getElem?]
      rw [Array.getElem?_setIfInBounds_self_of_lt hkl]; rfl
    · rw [getD_set_ne true hik, hm k true hkl, hkL]
theorem free_cond {ops : Array Oper} {listed : Array Bool} {L i : Nat} {oi : Oper} (hs : listed.size = ops.size) (hm : Masks listed L) (hf : freeM ops L i oi 0 ops.toList = true) :
    ∀ j oj, ops[j]? = some oj → j ≠ i → listed.getD j true = false → (∀ e ∈ oj.after, Region.binds .any e = true → e.on ≠ i) → oi.apart ops oj = true ∧ (emask oj).testBit i = false := by
  intro j oj hj hji hun hno
  have hjs : j < listed.size := by rw [hs]; exact (Array.getElem?_eq_some_iff.1 hj).1
  have hem : (emask oj).testBit i = false := by
    cases h : (emask oj).testBit i with
    | false => rfl
    | true =>
      unfold emask at h
      rw [emaskL_bit] at h
      obtain ⟨e, he, hb⟩ := List.any_eq_true.1 h
      simp only [Bool.and_eq_true, beq_iff_eq] at hb
      exact absurd hb.2 (hno e (by simpa using he) hb.1)
  refine ⟨?_, hem⟩
  have := freeM_elim ops.toList 0 hf j oj (by simpa using hj)
  rw [Nat.zero_add] at this
  rcases this with h | h | h | h
  · exact absurd h hji
  · rw [← hm j true hjs, hun] at h; simp at h
  · rw [hem] at h; simp at h
  · exact h
def takeAt (P : Program) (ops : List Oper) (i : Nat) : Bool := match ops[i]? with | some o => takeOp P o | none => false
/-- What each operation leaves. -/
def GdS (P : Program) (ops : Array Oper) (S : World → Prop) (i : Nat) (w w' : World) : Prop := (needL P ops.toList i = true → S w') ∧ (takeAt P ops.toList i = true → w' = w)
theorem both_elim {t : DT} {x y : Prop} (h : both t x y) : x ∧ ((match t with | .alt .. => True | _ => False) → y) := by
  cases t
  · exact ⟨h, fun h => h.elim⟩
  · exact ⟨h, fun h => h.elim⟩
  · exact ⟨h.1, fun _ => h.2⟩
theorem take_still {P : Program} {o : Oper} (h : takeOp P o = true) : stillOp P o = true := by
  obtain ⟨dst, op, ty, pos, after, guard⟩ := o
  cases op <;> simp only [takeOp, pureOp, stillOp] at h ⊢ <;> first | rfl | (simp at h; done) | skip
  · split at h
    · rename_i heq
      split at heq
      · rename_i h1 h2
        simp only [h1, h2]
      · cases heq
    · cases h
  · rename_i c
    obtain ⟨cal, args, ats⟩ := c
    cases cal <;> simp only at h ⊢ <;> first | (simp at h; done) | skip
    rename_i b
    cases b <;> simp only at h ⊢ <;> first | rfl | (simp at h; done)
theorem opV_stays {P : Program} {ρ : Operand → Value} {w : World} {o : Oper} {K : Value → World → Prop} (hs : stillOp P o = true) (h : opV P ρ o w K) : opV P ρ o w fun v w' => w' = w ∧ K v w' := by
  unfold opV at h ⊢
  rw [hs] at h ⊢
  simp only at h ⊢
  simpa using h
theorem drawV_sound {P : Program} {n : Nat} {ops : Array Oper} {S : World → Prop} {fr0 : Fr} {K : Fr → World → Prop} {Q : Exit → Act → World → Prop}
    (hn : Region.noSelect ops = true) (hdn : ∀ o ∈ ops.toList, ∀ d, o.dst = some d → d < n) (hQ : ∀ a fr' w', Rep n a fr' → agree (wOps ops.toList) fr0 fr' → K fr' w' → Q .normal a w') (t : DT) :
    ∀ (f L C : Nat) (listed : Array Bool) (a : Act) (fr : Fr) (w : World), drawOkT P ops t f L C = true → listed.size = ops.size → Masks listed L → (∀ i, ops.size ≤ i → L.testBit i = false) →
      ((∃ k o, ops[k]? = some o ∧ isLoad o = true ∧ listed.getD k true = false) → S w) → Rep n a fr → agree (wOps ops.toList) fr0 fr → drawV P ops.toList S K t fr w →
      (C = 0 → wpAnyY P .any ops (NoP Q) (GdS P ops S) f listed a w) ∧
      (∀ f', f = f' + 1 → (match t with | .alt .. => True | _ => False) → ∀ i ∈ Region.ready .any ops listed, C.testBit i = true ∨
        wpOp P ops (NoP Q) i (fun a' w' => GdS P ops S i w w' ∧ wpAnyY P .any ops (NoP Q) (GdS P ops S) f' (listed.setIfInBounds i true) a' w') a w) := by
  induction t with
  | fin =>
    intro f L C listed a fr w hd hs hm hv hS hr ha h
    exact ⟨fun _ => wpAnyY_done (Q := NoP Q) (noneRdy_nil hs hm hv hd) (hQ a fr w hr ha h) f, fun _ _ h => h.elim⟩
  | take i t ih =>
    intro f L C listed a fr0' w hd hs hm hv hS hr0 ha0 h
    refine ⟨fun _ => ?_, fun _ _ h => h.elim⟩
    cases f with
    | zero => simp [drawOkT] at hd
    | succ f =>
      simp only [drawOkT, Bool.and_eq_true] at hd
      obtain ⟨h1, hd⟩ := hd
      split at h1
      · rename_i o ho
        simp only [Bool.and_eq_true] at h1
        obtain ⟨⟨ht, hrd⟩, hfr⟩ := h1
        have ho' : ops[i]? = some o := by simpa using ho
        have hi : i < ops.size := (Array.getElem?_eq_some_iff.1 ho').1
        have hmem : o ∈ ops.toList := List.mem_of_getElem? ho
        simp only [drawV, ho] at h
        obtain ⟨fr, hr, hag, h⟩ := guardV_elim hr0 h
        have ha := ha0.trans (hag _ fun o ho d hd => memN_wOps ho hd)
        have hput : ∀ v, agree (wOps ops.toList) fr0 (lput fr o.dst v) := fun v => ha.lput (fun d hd => memN_wOps hmem hd) v
        have hrput : ∀ v, Rep n (a.put o.dst v) (lput fr o.dst v) := fun v => hr.put (hdn o hmem) v
        obtain ⟨ms, mm, mv⟩ := masks_set hs hm hv hi
        have hready : i ∈ Region.ready .any ops listed := (ready_mask hs hm hv ho').2 hrd
        have hun : listed.getD i true = false := (mem_ready.1 hready).1
        have hfc := free_cond hs hm hfr
        have hneed := take_need (P := P) ho' ht
        have hGi : ∀ w, GdS P ops S i w w := fun w => ⟨fun h => by rw [hneed] at h; simp at h, fun _ => rfl⟩
        have hinv : (∃ k o, ops[k]? = some o ∧ isLoad o = true ∧ (listed.setIfInBounds i true).getD k true = false) → S w := by
          rintro ⟨k, ok, hk, hl, hun⟩
          refine hS ⟨k, ok, hk, hl, ?_⟩
          by_cases hik : i = k
          · subst hik
            simp only [Array.getD_eq_getD_getElem?] at hun
            rw [Array.getElem?_setIfInBounds_self_of_lt (by omega)] at hun
            simp at hun
          · rwa [getD_set_ne true hik] at hun
        have rest : ∀ v, drawV P ops.toList S K t (lput fr o.dst v) w → wpAnyY P .any ops (NoP Q) (GdS P ops S) f (listed.setIfInBounds i true) (a.put o.dst v) w :=
          fun v hk => (ih f _ 0 _ _ _ w hd ms mm mv hinv (hrput v) (hput v) hk).1 rfl
        have plain : ∀ v, YieldsIf P ops (fun _ => True) o v a → drawV P ops.toList S K t (lput fr o.dst v) w → wpAnyY P .any ops (NoP Q) (GdS P ops S) (f + 1) listed a w := fun v hy hk =>
          wpAnyY_first (SS := fun _ => True) ho' (Region.noSelect_spec hn) (fun c a w h => h) hGi f listed a w (fun j oj h1 h2 h3 h4 => ⟨(hfc j oj h1 h2 h3 h4).1, fun _ _ _ _ => trivial⟩) hready hy trivial (rest v hk)
        rcases h with ⟨hw, h⟩ | ⟨hw, h⟩
        · unfold opH at h
          split at h
          · rename_i hp
            obtain ⟨v, hv', _, hk⟩ := opS_run h
            exact plain v (.inl ⟨hw, fun w' _ => by rw [hr.ev]; exact hv' hp w'⟩) hk
          · rename_i hp
            cases hop : o.op <;> rw [hop] at h <;> first | exact h.elim | skip
            rename_i ty a0
            simp only at h
            split at h
            · rename_i hok
              split at h
              · rename_i p hpp
                obtain ⟨A, rfl, h⟩ := onP_elim h
                obtain ⟨x, hx, hk⟩ := ldH_sound h
                have hload : isLoad o = true := by simp [isLoad, hop]
                refine wpAnyY_first (SS := S) (v := (tyOf P ty).enc x) ho' (Region.noSelect_spec hn) (fun c a w h => h) hGi f listed a w (fun j oj h1 h2 h3 h4 => ?_) hready (.inl ⟨hw, fun w' hs' => ?_⟩) (hS ⟨i, o, ho', hload, hun⟩) (rest _ hk)
                · obtain ⟨hap, hem⟩ := hfc j oj h1 h2 h3 h4
                  refine ⟨hap, fun w w' hG hSw => ?_⟩
                  have hj' : ops.toList[j]? = some oj := by simpa using h1
                  cases htj : takeOp P oj with
                  | true => rw [hG.2 (by simp [takeAt, hj', htj])]; exact hSw
                  | false =>
                    refine hG.1 ?_
                    simp only [needL, hj', htj]
                    cases hq : needFrom (emask oj) 0 ops.toList with
                    | true => rfl
                    | false =>
                      have := needFrom_elim ops.toList 0 hq i o ho hload
                      rw [Nat.zero_add, hem] at this
                      simp at this
                · obtain ⟨y, hy, rfl⟩ := loadVar_sound hok (hx w' hs')
                  rw [hr.ev]
                  simp only [execOp, hop, Instr.loadAt, Sem.run_bind, hpp, Instr.sureAddr, Sem.run_pure, Result.andThen_ok, hy]
              · exact h.elim
            · exact h.elim
        · exact plain undef (.inr ⟨hw, rfl⟩) h
      · simp at h1
  | alt i t more iht ihm =>
    intro f L C listed a fr0' w hd hs hm hv hS hr0 ha0 h
    cases f with
    | zero => simp [drawOkT] at hd
    | succ f =>
      simp only [drawOkT, Bool.and_eq_true] at hd
      obtain ⟨⟨hrd, hdt⟩, hdm⟩ := hd
      obtain ⟨h, hmore⟩ := both_elim h
      split at hrd
      · rename_i o ho
        have ho' : ops[i]? = some o := by simpa using ho
        have hi : i < ops.size := (Array.getElem?_eq_some_iff.1 ho').1
        have hmem : o ∈ ops.toList := List.mem_of_getElem? ho
        have hready : i ∈ Region.ready .any ops listed := (ready_mask hs hm hv ho').2 hrd
        obtain ⟨ms, mm, mv⟩ := masks_set hs hm hv hi
        rw [ho] at h
        simp only at h
        obtain ⟨fr, hr, hag, h⟩ := guardV_elim hr0 h
        have ha := ha0.trans (hag _ fun o ho d hd => memN_wOps ho hd)
        have hput : ∀ v, agree (wOps ops.toList) fr0 (lput fr o.dst v) := fun v => ha.lput (fun d hd => memN_wOps hmem hd) v
        have hold : ∀ k, (listed.setIfInBounds i true).getD k true = false → listed.getD k true = false := fun k hk => by
          by_cases hik : i = k
          · subst hik
            simp only [Array.getD_eq_getD_getElem?] at hk
            rw [Array.getElem?_setIfInBounds_self_of_lt (by omega)] at hk
            simp at hk
          · rwa [getD_set_ne true hik] at hk
        -- what holds behind operation i
        have behind : ∀ w', (needL P ops.toList i = true → S w') → (stillOp P o = true → w' = w) → ((∃ k o, ops[k]? = some o ∧ isLoad o = true ∧ (listed.setIfInBounds i true).getD k true = false) → S w') := by
          rintro w' hw1 hw2 ⟨k, ok, hk, hl, hun⟩
          cases hti : takeOp P o with
          | true => rw [hw2 (take_still hti)]; exact hS ⟨k, ok, hk, hl, hold k hun⟩
          | false =>
            cases hnd : needL P ops.toList i with
            | true => exact hw1 hnd
            | false =>
              have := need_loads hs hm ho' hti hrd hnd k ok hk hl
              rw [this] at hun
              simp at hun
        have hGi : ∀ w', (needL P ops.toList i = true → S w') → (stillOp P o = true → w' = w) → GdS P ops S i w w' := fun w' h1 h2 =>
          ⟨h1, fun ht => h2 (take_still (by simpa [takeAt, ho] using ht))⟩
        have here : wpOp P ops (NoP Q) i (fun a' w' => GdS P ops S i w w' ∧ wpAnyY P .any ops (NoP Q) (GdS P ops S) f (listed.setIfInBounds i true) a' w') a w := by
          unfold wpOp
          simp only [ho']
          rcases h with ⟨hw, h⟩ | ⟨hw, h⟩
          · rw [if_pos hw]
            refine .inl ?_
            cases hst : stillOp P o with
            | true =>
              refine Oper.wp_mono ?_ (opV_sound hr (hdn o hmem) (opV_stays hst h))
              rintro a2 w' ⟨v, hr2, hw', hk⟩
              obtain ⟨h1, h2⟩ := ask_elim hk
              exact ⟨hGi w' h1 fun _ => hw', (iht f _ 0 _ _ _ w' hdt ms mm mv (behind w' h1 fun _ => hw') hr2 (hput v) h2).1 rfl⟩
            | false =>
              refine Oper.wp_mono ?_ (opV_sound hr (hdn o hmem) h)
              rintro a2 w' ⟨v, hr2, hk⟩
              obtain ⟨h1, h2⟩ := ask_elim hk
              have hno : stillOp P o = true → w' = w := fun h => by rw [hst] at h; simp at h
              exact ⟨hGi w' h1 hno, (iht f _ 0 _ _ _ w' hdt ms mm mv (behind w' h1 hno) hr2 (hput v) h2).1 rfl⟩
          · rw [if_neg (by simp [hw])]
            obtain ⟨h1, h2⟩ := ask_elim h
            exact ⟨hGi w h1 fun _ => rfl, (iht f _ 0 _ _ _ w hdt ms mm mv (behind w h1 fun _ => rfl) (hr.put (hdn o hmem) undef) (hput undef) h2).1 rfl⟩
        have part2 : ∀ j ∈ Region.ready .any ops listed, C.testBit j = true ∨
            wpOp P ops (NoP Q) j (fun a' w' => GdS P ops S j w w' ∧ wpAnyY P .any ops (NoP Q) (GdS P ops S) f (listed.setIfInBounds j true) a' w') a w := by
          intro j hj
          by_cases hji : i = j
          · subst hji; exact .inr here
          · have hbit : (Nat.lor C (bitN i)).testBit j = true → C.testBit j = true := fun hb => by
              have hb1 : (Nat.lor C (bitN i)).testBit j = (C.testBit j || (bitN i).testBit j) := Nat.testBit_or _ _ _
              have hb2 : (bitN i).testBit j = decide (i = j) := Nat.testBit_two_pow
              rw [hb1, hb2] at hb
              simpa [hji] using hb
            obtain ⟨oj, hoj⟩ := ready_bound hj
            have hrj := (ready_mask hs hm hv hoj).1 hj
            have notalt : rdyIn L (Nat.lor C (bitN i)) 0 ops.toList = true → C.testBit j = true := fun hrin => hbit (by
              have := rdyIn_elim ops.toList 0 hrin j oj (by simpa using hoj)
              rw [Nat.zero_add] at this
              exact this hrj)
            cases more with
            | fin => exact .inl (notalt hdm)
            | take k t' => exact .inl (notalt hdm)
            | alt k t' m' =>
              rcases (ihm (f + 1) L (Nat.lor C (bitN i)) listed a fr0' w hdm hs hm hv hS hr0 ha0 (hmore trivial)).2 f rfl trivial j hj with hb | hb
              · exact .inl (hbit hb)
              · exact .inr hb
        refine ⟨fun hC => ?_, fun f' hf' _ => ?_⟩
        · subst hC
          refine wpAnyY_all (rs := Region.ready .any ops listed) (fun j hj => hj) (fun h0 => by rw [h0] at hready; cases hready) fun j hj _ => ?_
          rcases part2 j hj with hb | hb
          · simp at hb
          · exact hb
        · obtain rfl : f = f' := by omega
          exact part2
      · simp at hrd

theorem dstOk_elim {n : Nat} : ∀ {l : List Oper}, dstOk n l = true → ∀ o ∈ l, ∀ d, o.dst = some d → d < n
  | [], _, o, ho, _, _ => by simp at ho
  | p :: r, h, o, ho, d, hd => by
    simp only [dstOk, Bool.and_eq_true] at h
    rcases List.mem_cons.1 ho with rfl | ho
    · have := h.1
      rw [hd] at this
      simpa [Nat.blt_eq] using this
    · exact dstOk_elim h.2 o ho d hd

theorem vc_sound {P : Program} {n : Nat} : ∀ (c : Code) (h : HT) (Q : Exit → Fr → World → Prop) (a : Act) (fr : Fr) (w : World), chk P n c h = true → Rep n a fr → vc P c h Q fr w → c.wp P (QA n (writes c) fr Q) a w
  | .skip, h, Q, a, fr, w, _, hr, hv => wp_skip ⟨fr, hr, agree.refl _ _, hv⟩
  | .label l, h, Q, a, fr, w, _, hr, hv => wp_label ⟨fr, hr, agree.refl _ _, hv⟩
  | .exit id, h, Q, a, fr, w, _, hr, hv => wp_exit ⟨fr, hr, agree.refl _ _, hv⟩
  | .ret, h, Q, a, fr, w, _, hr, hv => wp_ret ⟨fr, hr, agree.refl _ _, hv⟩
  | .region id ops d, h, Q, a, fr, w, hc, hr, hv => by
    simp only [chk, Bool.and_eq_true] at hc
    obtain ⟨hdn, hc⟩ := hc
    have hdn := dstOk_elim hdn
    have hws : ∀ o ∈ ops.toList, ∀ d, o.dst = some d → memN d (wOps ops.toList) = true := fun o ho d hd => memN_wOps ho hd
    have fin : ∀ a fr' w', Rep n a fr' → agree (wOps ops.toList) fr fr' → Q .normal fr' w' → QA n (wOps ops.toList) fr Q .normal a w' := fun a fr' w' hr ha hk => ⟨fr', hr, ha, hk⟩
    cases d with
    | false =>
      simp only [vc] at hv
      exact wp_region_list (opsV_sound hws hdn fin _ a fr w (fun _ h => h) hr (agree.refl _ _) hv)
    | true =>
      cases h with
      | rg k =>
        simp only [vc] at hv
        simp only [Bool.and_eq_true, Bool.or_eq_true] at hc
        obtain ⟨hm, hc⟩ := hc
        have htl : ∀ o ∈ ops.toList.take k, o ∈ ops.toList := fun o ho => List.mem_of_mem_take ho
        have hdl : ∀ o ∈ ops.toList.drop k, o ∈ ops.toList := fun o ho => List.mem_of_mem_drop ho
        rcases hc with ⟨_, hB⟩ | ⟨hn, hB⟩
        · have := wp_region_still_tail (P := P) (id := id) (Q := QA n (wOps ops.toList) fr Q) (a := a) (w := w) (l := ops.toList) k hm hB
            (stillV_sound (ops := ops.toList.toArray) (ws := wOps ops.toList) (fr0 := fr) (K := fun fr' => opsV P ops.toList (Q .normal) (ops.toList.drop k) fr' w.drew)
              (by simpa using hws) (by simpa using hdn)
              (fun a' fr' hr' ha hk => opsV_sound (ops := ops.toList.toArray) (ws := wOps ops.toList) (fr0 := fr) (K := Q .normal) (by simpa using hws) (by simpa using hdn) fin _ a' fr' w.drew (by simpa using hdl) hr' ha (by simpa using hk))
              _ a fr (by simpa using htl) hr (agree.refl _ _) (by simpa using hv))
          simpa [writes] using this
        · have hn' : ops.toList.length ≤ k := by simpa using hn
          have hv' : stillV P ops.toList w.drew (fun fr' => Q .normal fr' w.drew) ops.toList fr := by
            rw [List.take_of_length_le hn', List.drop_eq_nil_of_le hn'] at hv
            exact hv
          exact wp_region_still hm hB (stillV_sound (ops := ops) (ws := wOps ops.toList) (fr0 := fr) (K := fun fr' => Q .normal fr' w.drew) hws hdn
              (fun a' fr' hr' ha hk => ⟨fr', hr', ha, hk⟩) _ a fr (fun _ h => h) hr (agree.refl _ _) hv')
      | dr t =>
        simp only [vc] at hv
        simp only [Bool.and_eq_true] at hc
        obtain ⟨⟨hm, hn⟩, hd⟩ := hc
        obtain ⟨S, hS, hv⟩ := hv
        have hd' : drawOkT P ops t ops.size 0 0 = true := by simpa using hd
        have := (drawV_sound (P := P) (Q := QA n (wOps ops.toList) fr Q) (K := Q .normal) (fr0 := fr) hn hdn fin t ops.size 0 0 (Array.replicate ops.size false) a fr w.drew hd' (by simp) (fun k d hk => by
          have hk' : k < ops.size := by simpa using hk
          simp [Array.getD_eq_getD_getElem?, hk']) (by simp) (fun _ => hS) hr (agree.refl _ _) hv).1 rfl
        exact wp_mono (wp_region_Y hm this) NoP.imp
      | _ => simp [vc] at hv
  | .seq a b, h, Q, ac, fr, w, hc, hr, hv => by
    have plain : ∀ ha hb, chk P n a ha = true → chk P n b hb = true → vc P a ha (thenV (vc P b hb Q) Q) fr w → (Code.seq a b).wp P (QA n (writes (.seq a b)) fr Q) ac w := by
      intro ha hb hca hcb hv
      refine wp_seq (wp_mono (vc_sound a ha _ ac fr w hca hr hv) ?_)
      rintro e a' w' ⟨fr', hr', hag, hq⟩
      cases e with
      | normal =>
        refine wp_mono (vc_sound b hb Q a' fr' w' hcb hr' hq) ?_
        rintro e2 a2 w2 ⟨fr2, hr2, hag2, hq2⟩
        exact ⟨fr2, hr2, hag.left.trans hag2.right, hq2⟩
      | _ => exact ⟨fr', hr', hag.left, hq⟩
    cases h with
    | jn l ha hb =>
      simp only [vc] at hv
      simp only [chk, Bool.and_eq_true] at hc
      obtain ⟨⟨hs, hca⟩, hcb⟩ := hc
      obtain ⟨R, h1, h2⟩ := hv
      refine wp_seq (wp_mono (vc_sound a ha _ ac fr w hca hr h1) ?_)
      rintro e a' w' ⟨fr', hr', hag, hq⟩
      cases e with
      | normal =>
        obtain ⟨x, hx, hR⟩ := getS_elim hq
        have hv2 := h2 x (lget fr') w' hR
        have hfr := hx _ (hav_eq hag)
        refine wp_mono (vc_sound b hb Q a' _ w' hcb (hr'.eqv hfr) hv2) ?_
        rintro e2 a2 w2 ⟨fr2, hr2, hag2, hq2⟩
        refine ⟨fr2, hr2, ?_, hq2⟩
        have h1 : agree (writes a) fr (setS l x (hav (lget fr') (writes a) fr)) := agree_setS l x fr _ hs (agree_hav _ _ _)
        exact h1.left.trans hag2.right
      | _ => exact ⟨fr', hr', hag.left, hq⟩
    | j3 l ha hb hcc =>
      cases b with
      | seq b c =>
        simp only [vc] at hv
        simp only [chk, Bool.and_eq_true] at hc
        obtain ⟨⟨⟨hs, hca⟩, hcb⟩, hcc'⟩ := hc
        obtain ⟨R, h1, h2⟩ := hv
        refine wp_seq (wp_mono (vc_sound a ha _ ac fr w hca hr h1) ?_)
        rintro e a' w' ⟨fr', hr', hag, hq⟩
        cases e with
        | normal =>
          refine wp_seq (wp_mono (vc_sound b hb _ a' fr' w' hcb hr' hq) ?_)
          rintro e2 a2 w2 ⟨fr2, hr2, hag2, hq2⟩
          have hag12 : agree (writes a ++ writes b) fr fr2 := hag.left.trans hag2.right
          have hws : ∀ {x y}, agree (writes a ++ writes b) x y → agree (writes (.seq a (.seq b c))) x y := fun {x y} h => by
            have : agree ((writes a ++ writes b) ++ writes c) x y := h.left
            simpa [writes, List.append_assoc] using this
          cases e2 with
          | normal =>
            obtain ⟨x, hx, hR⟩ := getS_elim hq2
            have hv2 := h2 x (lget fr2) w2 hR
            have hfr := hx _ (hav_eq hag12)
            refine wp_mono (vc_sound c hcc Q a2 _ w2 hcc' (hr2.eqv hfr) hv2) ?_
            rintro e3 a3 w3 ⟨fr3, hr3, hag3, hq3⟩
            refine ⟨fr3, hr3, ?_, hq3⟩
            have h1 : agree (writes a ++ writes b) fr (setS l x (hav (lget fr2) (writes a ++ writes b) fr)) := agree_setS l x fr _ hs (agree_hav _ _ _)
            exact (hws h1).trans ((hag3.right (a := writes b)).right (a := writes a))
          | _ => exact ⟨fr2, hr2, hws hag12, hq2⟩
        | _ => exact ⟨fr', hr', hag.left, hq⟩
      | _ => simp [vc] at hv
    | _ =>
      simp only [vc] at hv
      simp only [chk, Bool.and_eq_true] at hc
      exact plain _ _ hc.1 hc.2 hv
  | .cond t x y, h, Q, a, fr, w, hc, hr, hv => by
    simp only [vc] at hv
    simp only [chk, Bool.and_eq_true] at hc
    split at hv
    · rename_i b hb
      have he : a.eval t = .bool b := by rw [hr.ev]; exact hb
      rcases cnd_elim hv with ⟨rfl, hv⟩ | ⟨rfl, hv⟩
      · refine wp_cond_true he (wp_mono (vc_sound x h.one Q a fr w hc.1 hr hv) ?_)
        rintro e a' w' ⟨fr', hr', hag, hq⟩
        exact ⟨fr', hr', hag.left, hq⟩
      · refine wp_cond_false he (wp_mono (vc_sound y h.two Q a fr w hc.2 hr hv) ?_)
        rintro e a' w' ⟨fr', hr', hag, hq⟩
        exact ⟨fr', hr', hag.right, hq⟩
    · exact hv.elim
  | .block id c, h, Q, a, fr, w, hc, hr, hv => by
    simp only [vc] at hv
    simp only [chk] at hc
    refine wp_block (wp_mono (vc_sound c h.one _ a fr w hc hr hv) ?_)
    rintro e a' w' ⟨fr', hr', hag, hq⟩
    cases e with
    | exit i =>
      simp only [inBlockV] at hq
      simp only [Exit.inBlock]
      split at hq
      · rename_i hb
        rw [if_pos (Nat.eq_of_beq_eq_true hb)]
        exact ⟨fr', hr', hag, hq⟩
      · rename_i hb
        rw [if_neg (Nat.ne_of_beq_eq_false hb)]
        exact ⟨fr', hr', hag, hq⟩
    | _ => exact ⟨fr', hr', hag, hq⟩
  | .loop c, h, Q, a, fr, w, hc, hr, hv => by
    cases h with
    | lp l hb =>
      simp only [vc] at hv
      simp only [chk, Bool.and_eq_true] at hc
      obtain ⟨hs, hcb⟩ := hc
      obtain ⟨I, h0, hround⟩ := hv
      obtain ⟨x0, hx0, n0, hI0⟩ := getS_elim h0
      let J : Act → World → Nat → Prop := fun a w m => ∃ fr' x, Rep n a fr' ∧ agree (writes c) fr fr' ∧ (∀ fr2, (∀ i, lget fr2 i = lget fr' i) → ∀ i, lget (setS l x fr2) i = lget fr' i) ∧ I m x w
      refine wp_loop (fun a w => ∃ m, J a w m) (fun a w => least (J a w)) ⟨n0, fr, x0, hr, agree.refl _ _, hx0, hI0⟩ ?_
      intro a w hJ
      obtain ⟨⟨fr', x, hr', hag, hx, hI⟩, hmin⟩ := least_spec hJ
      have hrd := hround _ x (lget fr') w hI
      have hfr := hx _ (hav_eq hag)
      refine wp_mono (vc_sound c hb _ a _ w hcb (hr'.eqv hfr) hrd) ?_
      rintro e a2 w2 ⟨fr2, hr2, hag2, hq⟩
      have hag3 : agree (writes c) fr fr2 := (agree_setS l x fr _ hs (agree_hav _ _ _)).trans hag2
      cases e with
      | normal =>
        obtain ⟨x', hx', m, hm, hI'⟩ := getS_elim hq
        have hJ2 : J a2 w2 m := ⟨fr2, x', hr2, hag3, hx', hI'⟩
        exact ⟨⟨m, hJ2⟩, Nat.lt_of_le_of_lt ((least_spec ⟨m, hJ2⟩).2 m hJ2) hm⟩
      | _ => exact ⟨fr2, hr2, hag3, hq⟩
    | _ => simp [vc] at hv
  | .scope c, h, Q, a, fr, w, hc, hr, hv => by simp [vc] at hv
  | .goto l, h, Q, a, fr, w, hc, hr, hv => by simp [vc] at hv
  | .refuse m, h, Q, a, fr, w, hc, hr, hv => by simp [vc] at hv
  | .rangeFunc f p x b, h, Q, a, fr, w, hc, hr, hv => by simp [vc] at hv
termination_by c => SizeOf.sizeOf c

theorem initF_get : ∀ (l : List Value) (k i : Nat), lget (initF l k) i = if k ≤ i then (l[i - k]?).getD undef else undef
  | [], k, i => by simp [initF, lget]
  | v :: r, k, i => by
    simp only [initF, lget_cons, initF_get r (k + 1) i]
    rcases Nat.lt_trichotomy k i with h | rfl | h
    · rw [if_neg (Nat.ne_of_lt h), if_pos (by omega), if_pos (by omega), show i - k = (i - (k + 1)) + 1 by omega]
      simp
    · simp
    · rw [if_neg (Nat.ne_of_gt h), if_neg (by omega), if_neg (by omega)]

def resOp (fr : Fr) : ResultVar → Sem Value
  | .tmp t => pure (lget fr t)
  | .cell a t => do loadVar t (← asAddr (lget fr a))
theorem resV_sound {P : Program} {fr : Fr} {w : World} : ∀ (rs : List ResultVar) (K : List Value → Prop), resV P fr w rs K →
    ∃ vs, Sem.run P (rs.mapM (resOp fr)) w = .ok vs w ∧ vs.length = rs.length ∧ K vs
  | [], K, h => ⟨[], by simp, rfl, h⟩
  | .tmp t :: r, K, h => by
    obtain ⟨vs, hr, hl, hk⟩ := resV_sound r _ h
    exact ⟨_, by simp only [List.mapM_cons, Sem.run_bind, resOp, Sem.run_pure, Result.andThen_ok, hr], by simp [hl], hk⟩
  | .cell a t :: r, K, h => by
    unfold resV at h
    split at h
    · rename_i hok
      split at h
      · rename_i p hp
        obtain ⟨A, rfl, h⟩ := onP_elim h
        obtain ⟨x, hx, h⟩ := loadVar_sound hok h
        obtain ⟨vs, hr, hl, hk⟩ := resV_sound r _ h
        exact ⟨_, by simp only [List.mapM_cons, Sem.run_bind, resOp, Sem.run_pure, Result.andThen_ok, hr, hp, asAddr, hx], by simp [hl], hk⟩
      · exact h.elim
    · exact h.elim

theorem fnV_sound {P : Program} {f : FuncId} {fn : Func} {rt : List Ty} {h : HT} {args : List Value} {w : World} {R : Tys rt → World → Prop}
    (hf : P.funcs[f]? = some fn) (hn : (fn.name == "runtime.NumGoroutine") = false) (hc : (match fn.body with | some c => Nat.ble args.length fn.ntmps && chk P fn.ntmps c h | none => false) = true)
    (hv : fnV P fn rt h args w R) : CallT rt P f args w R := by
  unfold fnV at hv
  cases hb : fn.body with
  | none => rw [hb] at hv; exact hv.elim
  | some c =>
    rw [hb] at hv hc
    refine ⟨⟨fn, c, hf, hb, hn⟩, ?_⟩
    simp only [Bool.and_eq_true, Nat.ble_eq] at hc
    refine calls_of_wp hf hb ?_
    have hrep : Rep fn.ntmps ⟨args.toArray ++ Array.replicate (fn.ntmps - args.toArray.size) undef, []⟩ (initF args 0) := by
      refine ⟨rfl, by simp; omega, fun i => ?_⟩
      rw [initF_get]
      simp only [Nat.zero_le, if_true, Nat.sub_zero, Array.getD_eq_getD_getElem?, Array.getElem?_append]
      split
      · simp
      · rename_i hi
        have hi' : args.length ≤ i := by simpa using hi
        rw [List.getElem?_eq_none hi', Array.getElem?_replicate]
        split <;> rfl
    refine wp_mono (vc_sound c h _ _ _ w hc.2 hrep hv) ?_
    have fin : ∀ (a' : Act) (fr' : Fr) (w' : World), Rep fn.ntmps a' fr' → (resV P fr' w' fn.results.toList fun vs => decTys rt vs fun x => R x w') →
        ∃ v, (results fn a'.tmps).run P w' = .ok v w' ∧ ∃ x, Ending.returned v = .returned (encR rt x) ∧ R x w' := by
      intro a' fr' w' hrep' hr
      obtain ⟨vs, hvs, hl, hk⟩ := resV_sound _ _ hr
      obtain ⟨x, hx, hk⟩ := decTys_elim _ _ _ hk
      refine ⟨encR rt x, ?_, x, rfl, hk⟩
      have hr' : results fn a'.tmps = (do
          let vs ← fn.results.mapM (resOp fr')
          pure (if h : vs.size = 1 then vs[0] else .tuple vs) : Sem Value) := by
        unfold results
        congr 1
        congr 1
        funext r
        cases r <;> simp only [resOp, hrep'.get]
      rw [hr', Array.mapM_eq_mapM_toList]
      simp only [Sem.run_bind, Sem.run_map, hvs, Result.andThen_ok, Sem.run_pure]
      congr 1
      match rt, x, hx with
      | [], x, hx => subst hx; simp [encTys, encR]
      | [t], x, hx => subst hx; simp [encTys, encR]
      | s :: t :: r, x, hx =>
        subst hx
        have : ¬ (encTys (s :: t :: r) x).toArray.size = 1 := by
          simp only [List.size_toArray, encTys, List.length_cons]
          have : ∀ (l : List Ty) (y : Tys l), (encTys l y).length = l.length := by
            intro l
            induction l with
            | nil => intro y; rfl
            | cons a l ih =>
              intro y
              cases l with
              | nil => rfl
              | cons b l => simp only [encTys, List.length_cons]; rw [ih]; rfl
          rw [this]; simp
        rw [dif_neg this]
    rintro e a' w' ⟨fr', hrep', _, hq⟩
    cases e with
    | normal => exact ⟨hrep'.defers, fin a' fr' w' hrep' hq⟩
    | ret => exact ⟨hrep'.defers, fin a' fr' w' hrep' hq⟩
    | _ => exact hq.elim
end Go.Vc
