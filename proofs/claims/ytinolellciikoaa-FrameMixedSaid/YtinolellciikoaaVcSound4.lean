/- Regions, code, functions: what 'vc' asks is enough for the model's calls. Conditions: none. -/
import Derived.Test.YtinolellciikoaaVcSound3
import Derived.Orders
namespace Go.Vc
open Go

def agree (ws : List Nat) (fr fr' : Fr) : Prop := ∀ i, memN i ws = false → lget fr' i = lget fr i
theorem agree.refl (ws : List Nat) (fr : Fr) : agree ws fr fr := fun _ _ => rfl
theorem agree.trans {ws : List Nat} {a b c : Fr} (h : agree ws a b) (k : agree ws b c) : agree ws a c :=
  fun i hi => (k i hi).trans (h i hi)
theorem memN_append (n : Nat) (a b : List Nat) : memN n (a ++ b) = (memN n a || memN n b) := by
  induction a with
  | nil => simp [memN]
  | cons m r ih => simp only [List.cons_append, memN]; split <;> simp_all
theorem memN_mem {n : Nat} {l : List Nat} (h : n ∈ l) : memN n l = true := by
  induction l with
  | nil => simp at h
  | cons m r ih =>
    simp only [memN]
    split
    · rfl
    · rename_i hb
      rcases List.mem_cons.1 h with rfl | h
      · simp at hb
      · exact ih h
theorem agree.left {a b : List Nat} {fr fr' : Fr} (h : agree a fr fr') : agree (a ++ b) fr fr' :=
  fun i hi => h i (by rw [memN_append] at hi; simp_all)
theorem agree.right {a b : List Nat} {fr fr' : Fr} (h : agree b fr fr') : agree (a ++ b) fr fr' :=
  fun i hi => h i (by rw [memN_append] at hi; simp_all)
theorem agree.lset {ws : List Nat} {fr fr' : Fr} (h : agree ws fr fr') {d : Nat} (hd : memN d ws = true) (v : Value) : agree ws fr (lset fr' d v) := by
  intro i hi
  rw [lget_lset]
  have : d ≠ i := by rintro rfl; simp_all
  simp [this, h i hi]
theorem agree.lput {ws : List Nat} {fr fr' : Fr} (h : agree ws fr fr') {d : Option Tmp} (hd : ∀ i, d = some i → memN i ws = true) (v : Value) : agree ws fr (lput fr' d v) := by
  cases d with
  | none => exact h
  | some i => exact h.lset (hd i rfl) v

theorem memN_wOps {ops : List Oper} {o : Oper} {d : Nat} (ho : o ∈ ops) (hd : o.dst = some d) : memN d (wOps ops) = true :=
  memN_mem (List.mem_filterMap.2 ⟨o, ho, hd⟩)
theorem flagAt_spec {ops : List Oper} {j d : Nat} (h : flagAt ops j = some d) : ∃ o, ops[j]? = some o ∧ o.dst = some d ∧ o ∈ ops := by
  unfold flagAt at h
  split at h
  · rename_i o ho; exact ⟨o, ho, h, List.mem_of_getElem? ho⟩
  · simp at h
/-- What is wanted is known. -/
theorem guardV_elim {n : Nat} {a : Act} {ops : Array Oper} {o : Oper} {fr : Fr} {yes no : Fr → Prop} (ha : Rep n a fr) (h : guardV ops.toList o fr yes no) :
    ∃ fr', Rep n a fr' ∧ (∀ ws, (∀ o ∈ ops.toList, ∀ d, o.dst = some d → memN d ws = true) → agree ws fr fr') ∧
      ((Region.wanted o (yielded ops a.tmps) = true ∧ yes fr') ∨ (Region.wanted o (yielded ops a.tmps) = false ∧ no fr')) := by
  unfold guardV at h
  split at h
  · rename_i hg; exact ⟨fr, ha, fun _ _ => agree.refl _ _, .inl ⟨by simp [Region.wanted, hg], h⟩⟩
  · rename_i j want hg
    split at h
    · rename_i d hf
      obtain ⟨oj, hoj, hdj, hmj⟩ := flagAt_spec hf
      have hb : (ops[j]?).bind (·.dst) = some d := by
        have : ops[j]? = some oj := by simpa using hoj
        rw [this]; exact hdj
      split at h
      · rename_i b hb'
        have hget := ha.get d
        rw [hb'] at hget
        have hsome : a.tmps[d]? = some (.bool b) := by
          rw [Array.getD_eq_getD_getElem?] at hget
          cases hq : a.tmps[d]? with
          | none => rw [hq] at hget; simp [undef] at hget
          | some v => rw [hq] at hget; simpa using hget
        have hy : yielded ops a.tmps j = some b := by
          unfold yielded
          rw [hb]
          simp only [Option.bind_some, hsome]
        have hw : Region.wanted o (yielded ops a.tmps) = (b == want) := by
          simp only [Region.wanted, hg, hy]
          cases b <;> cases want <;> rfl
        have hag : ∀ v ws, (∀ o ∈ ops.toList, ∀ d, o.dst = some d → memN d ws = true) → agree ws fr (lset fr d v) :=
          fun v ws hall => (agree.refl ws fr).lset (hall oj hmj d hdj) v
        rw [hw]
        rcases cnd_elim h with ⟨rfl, h⟩ | ⟨rfl, h⟩
        · refine ⟨lset fr d (.bool true), ha.self hb', hag _, ?_⟩
          cases want
          · exact .inr ⟨rfl, h⟩
          · exact .inl ⟨rfl, h⟩
        · refine ⟨lset fr d (.bool false), ha.self hb', hag _, ?_⟩
          cases want
          · exact .inl ⟨rfl, h⟩
          · exact .inr ⟨rfl, h⟩
      · rename_i vs hb'
        refine ⟨fr, ha, fun _ _ => agree.refl _ _, .inr ⟨?_, h⟩⟩
        have hget := ha.get d
        rw [hb'] at hget
        have hy : yielded ops a.tmps j = none := by
          unfold yielded
          rw [hb]
          simp only [Option.bind_some]
          rw [Array.getD_eq_getD_getElem?] at hget
          cases hq : a.tmps[d]? with
          | none => rfl
          | some v => rw [hq] at hget; simp at hget; subst hget; rfl
        simp [Region.wanted, hg, hy]
      · exact h.elim
    · exact h.elim

theorem opsV_sound {P : Program} {n : Nat} {ops : Array Oper} {ws : List Nat} {fr0 : Fr} {K : Fr → World → Prop} {Q : Exit → Act → World → Prop}
    (hws : ∀ o ∈ ops.toList, ∀ d, o.dst = some d → memN d ws = true) (hdn : ∀ o ∈ ops.toList, ∀ d, o.dst = some d → d < n)
    (hQ : ∀ a fr' w', Rep n a fr' → agree ws fr0 fr' → K fr' w' → Q .normal a w') :
    ∀ (l : List Oper) (a : Act) (fr : Fr) (w : World), (∀ o ∈ l, o ∈ ops.toList) → Rep n a fr → agree ws fr0 fr → opsV P ops.toList K l fr w → wpList P ops Q l a w
  | [], a, fr, w, _, hr, ha, h => hQ a fr w hr ha h
  | o :: r, a, fr, w, hl, hr, ha, h => by
    unfold wpList
    have ho := hl o (by simp)
    obtain ⟨fr', hr', hag, h⟩ := guardV_elim hr h
    have ha' := ha.trans (hag ws hws)
    rcases h with ⟨hw, h⟩ | ⟨hw, h⟩
    · rw [if_pos hw]
      refine .inl (Oper.wp_mono ?_ (opV_sound hr' (hdn o ho) h))
      rintro a2 w' ⟨v, hr2, hk⟩
      exact opsV_sound hws hdn hQ r a2 _ w' (fun o ho => hl o (by simp [ho])) hr2 (ha'.lput (hws o ho) v) hk
    · rw [if_neg (by simp [hw])]
      exact opsV_sound hws hdn hQ r _ _ w (fun o ho => hl o (by simp [ho])) (hr'.put (hdn o ho) undef) (ha'.lput (hws o ho) undef) h

theorem opT_sound {P : Program} {n : Nat} {a : Act} {fr : Fr} {o : Oper} {w : World} {K : Value → Prop} (ha : Rep n a fr) (hd : ∀ i, o.dst = some i → i < n) (h : opT P (ev fr) o w K) :
    o.still P a w fun a' => ∃ v, Rep n a' (lput fr o.dst v) ∧ K v := by
  unfold opT at h
  unfold Oper.still
  rw [ha.ev]
  split at h
  · obtain ⟨v, hv, hk⟩ := opS_sound h
    rw [hv]
    exact ⟨rfl, v, ha.put hd v, hk⟩
  · rename_i hst
    clear hst
    obtain ⟨dst, op, ty, pos, after, guard⟩ := o
    cases op <;> simp only at h <;> first | exact h.elim | skip
    rename_i c
    obtain ⟨cal, args, ats⟩ := c
    cases cal <;> simp only at h <;> first | exact h.elim | skip
    rename_i f
    unfold callStill at h
    split at h
    · rename_i id first cap hf
      obtain ⟨x, ⟨⟨fn, c, hfn, hb, hn⟩, hc⟩, hk⟩ := h
      have he : (execOp (ev fr) ⟨dst, .call ⟨.value f, args, ats⟩, ty, pos, after, guard⟩).run P w = .ok (.enter id (first.toList ++ args.toList.map (ev fr) ++ cap.toList).toArray) w := by
        have hargs : (first.toList ++ args.toList.map (ev fr) ++ cap.toList).toArray = (first ++ args.map (ev fr)) ++ cap := by apply Array.ext'; simp
        rw [hargs]
        simp only [execOp, resolve, Sem.run_bind, Sem.run_pure, Result.andThen_ok, hf, Deferred.ofValue, invoke, callFunc, run_program, hfn, hn, hb]
        simp
      rw [he]
      refine ⟨rfl, encR (rtOf P ty) x, ?_, _, ha.put hd _, hk⟩
      refine Calls.mono hc ?_
      rintro e w' ⟨y, rfl, rfl, rfl⟩
      exact ⟨rfl, rfl⟩
    · exact h.elim
theorem stillV_sound {P : Program} {n : Nat} {ops : Array Oper} {ws : List Nat} {fr0 : Fr} {w : World} {K : Fr → Prop} {Q : Act → Prop}
    (hws : ∀ o ∈ ops.toList, ∀ d, o.dst = some d → memN d ws = true) (hdn : ∀ o ∈ ops.toList, ∀ d, o.dst = some d → d < n)
    (hQ : ∀ a fr', Rep n a fr' → agree ws fr0 fr' → K fr' → Q a) :
    ∀ (l : List Oper) (a : Act) (fr : Fr), (∀ o ∈ l, o ∈ ops.toList) → Rep n a fr → agree ws fr0 fr → stillV P ops.toList w K l fr → wpStill P ops w Q l a
  | [], a, fr, _, hr, ha, h => hQ a fr hr ha h
  | o :: r, a, fr, hl, hr, ha, h => by
    unfold wpStill
    have ho := hl o (by simp)
    obtain ⟨fr', hr', hag, h⟩ := guardV_elim hr h
    have ha' := ha.trans (hag ws hws)
    rcases h with ⟨hw, h⟩ | ⟨hw, h⟩
    · rw [if_pos hw]
      refine Oper.still_mono ?_ (opT_sound hr' (hdn o ho) h)
      rintro a2 ⟨v, hr2, hk⟩
      exact stillV_sound hws hdn hQ r a2 _ (fun o ho => hl o (by simp [ho])) hr2 (ha'.lput (hws o ho) v) hk
    · rw [if_neg (by simp [hw])]
      exact stillV_sound hws hdn hQ r _ _ (fun o ho => hl o (by simp [ho])) (hr'.put (hdn o ho) undef) (ha'.lput (hws o ho) undef) h

/-! ### the check by masks -/
theorem hasBit_eq (L i : Nat) : hasBit L i = L.testBit i := by
  unfold hasBit bitN
  have hb : ∀ k, (Nat.land L (Nat.pow 2 i)).testBit k = (L.testBit k && decide (i = k)) := fun k => by
    have h1 : (Nat.land L (Nat.pow 2 i)).testBit k = (L.testBit k && (Nat.pow 2 i).testBit k) := Nat.testBit_and _ _ _
    have h2 : (Nat.pow 2 i).testBit k = decide (i = k) := Nat.testBit_two_pow
    rw [h1, h2]
  split
  · rename_i h
    have h0 := Nat.eq_of_beq_eq_true h
    have := hb i
    rw [h0] at this
    simpa using this
  · rename_i h
    have h0 := Nat.ne_of_beq_eq_false h
    cases hL : L.testBit i with
    | true => rfl
    | false =>
      refine absurd ?_ h0
      apply Nat.eq_of_testBit_eq
      intro k
      rw [hb k]
      by_cases hk : i = k
      · subst hk; simp [hL]
      · simp [hk]
theorem emaskL_bit (k : Nat) : ∀ l : List Edge, (emaskL l).testBit k = l.any fun e => Region.binds .any e && e.on == k
  | [] => by simp [emaskL]
  | e :: r => by
    have ih := emaskL_bit k r
    simp only [emaskL, List.any_cons]
    split
    · rename_i hb
      have : (Nat.lor (emaskL r) (bitN e.on)).testBit k = ((emaskL r).testBit k || (bitN e.on).testBit k) := Nat.testBit_or _ _ _
      rw [this, ih, hb]
      have : (bitN e.on).testBit k = decide (e.on = k) := Nat.testBit_two_pow
      have hbe : (e.on == k) = decide (e.on = k) := by cases h : decide (e.on = k) <;> simp_all
      rw [this, Bool.or_comm, hbe]
      simp
    · rename_i hb
      rw [ih, hb]; simp
theorem emask_sub (o : Oper) (L : Nat) : Nat.beq (Nat.land (emask o) L) (emask o) = o.after.all fun e => !Region.binds .any e || L.testBit e.on := by
  rw [Bool.eq_iff_iff, Nat.beq_eq]
  constructor
  · intro h
    rw [Array.all_eq_true_iff_forall_mem]
    intro e he
    cases hb : Region.binds .any e with
    | false => rfl
    | true =>
      have h1 : (emask o).testBit e.on = true := by
        unfold emask
        rw [emaskL_bit]
        exact List.any_eq_true.2 ⟨e, by simpa using he, by simp [hb]⟩
      have h2 : (Nat.land (emask o) L).testBit e.on = ((emask o).testBit e.on && L.testBit e.on) := Nat.testBit_and _ _ _
      rw [h, h1] at h2
      simpa using h2.symm
  · intro h
    rw [Array.all_eq_true_iff_forall_mem] at h
    apply Nat.eq_of_testBit_eq
    intro k
    have h2 : (Nat.land (emask o) L).testBit k = ((emask o).testBit k && L.testBit k) := Nat.testBit_and _ _ _
    rw [h2]
    cases hk : (emask o).testBit k with
    | false => rfl
    | true =>
      unfold emask at hk
      rw [emaskL_bit] at hk
      obtain ⟨e, he, hb⟩ := List.any_eq_true.1 hk
      simp only [Bool.and_eq_true, beq_iff_eq] at hb
      have := h e (by simpa using he)
      rw [hb.1, hb.2] at this
      simpa using this
/-- 'listed' as a mask. -/
def Masks (listed : Array Bool) (L : Nat) : Prop := ∀ k d, k < listed.size → listed.getD k d = L.testBit k
theorem ready_mask {ops : Array Oper} {listed : Array Bool} {L k : Nat} {o : Oper} (hs : listed.size = ops.size) (hm : Masks listed L) (hv : ∀ i, ops.size ≤ i → L.testBit i = false) (ho : ops[k]? = some o) :
    k ∈ Region.ready .any ops listed ↔ rdy L k o = true := by
  have hk : k < ops.size := (Array.getElem?_eq_some_iff.1 ho).1
  rw [mem_ready]
  unfold rdy
  rw [hasBit_eq, emask_sub]
  have e1 := hm k true (by omega)
  have e2 : ∀ i, listed.getD i false = L.testBit i := fun i => by
    rcases Nat.lt_or_ge i listed.size with h | h
    · exact hm i false h
    · rw [hv i (by omega)]; simp [Array.getD_eq_getD_getElem?, Array.getElem?_eq_none h]
  rw [e1]
  constructor
  · rintro ⟨h1, o', ho', h2⟩
    rw [ho] at ho'
    obtain rfl := Option.some.inj ho'
    rw [h1]
    simp only [Array.all_eq_true_iff_forall_mem, Bool.or_eq_true, Bool.not_eq_true']
    intro e he
    cases hb : Region.binds .any e with
    | false => exact .inl rfl
    | true => exact .inr (by rw [← e2]; exact h2 e he hb)
  · intro h
    cases hb : L.testBit k with
    | true => rw [hb] at h; simp at h
    | false =>
      rw [hb] at h
      simp only [Array.all_eq_true_iff_forall_mem, Bool.or_eq_true, Bool.not_eq_true'] at h
      refine ⟨rfl, o, ho, fun e he hbe => ?_⟩
      rw [e2]
      rcases h e he with h | h
      · rw [hbe] at h; simp at h
      · exact h
theorem ready_bound {ops : Array Oper} {listed : Array Bool} {k : Nat} (h : k ∈ Region.ready .any ops listed) : ∃ o, ops[k]? = some o := by
  obtain ⟨_, o, ho, _⟩ := mem_ready.1 h
  exact ⟨o, ho⟩
theorem noneRdy_elim {L : Nat} : ∀ (l : List Oper) (k : Nat), noneRdy L k l = true → ∀ j o, l[j]? = some o → rdy L (k + j) o = false
  | [], _, _, j, o, h => by simp at h
  | p :: r, k, h, j, o, ho => by
    simp only [noneRdy, Bool.and_eq_true] at h
    cases j with
    | zero =>
      simp at ho; subst ho
      have := h.1
      cases hr : rdy L k p with
      | false => simp
      | true => rw [hr] at this; simp at this
    | succ j =>
      have := noneRdy_elim r (k + 1) h.2 j o (by simpa using ho)
      rwa [show k + (j + 1) = k + 1 + j by omega]
theorem rdyIn_elim {L C : Nat} : ∀ (l : List Oper) (k : Nat), rdyIn L C k l = true → ∀ j o, l[j]? = some o → rdy L (k + j) o = true → C.testBit (k + j) = true
  | [], _, _, j, o, h, _ => by simp at h
  | p :: r, k, h, j, o, ho, hr => by
    simp only [rdyIn, Bool.and_eq_true] at h
    cases j with
    | zero =>
      simp at ho; subst ho
      have h1 := h.1
      rw [Nat.add_zero] at hr ⊢
      rw [hr] at h1
      rw [← hasBit_eq]; exact h1
    | succ j =>
      rw [show k + (j + 1) = k + 1 + j by omega] at hr ⊢
      exact rdyIn_elim r (k + 1) h.2 j o (by simpa using ho) hr
theorem needFrom_elim {m : Nat} : ∀ (l : List Oper) (k : Nat), needFrom m k l = false → ∀ j o, l[j]? = some o → isLoad o = true → m.testBit (k + j) = true
  | [], _, _, j, o, h, _ => by simp at h
  | p :: r, k, h, j, o, ho, hl => by
    simp only [needFrom, Bool.or_eq_false_iff] at h
    cases j with
    | zero =>
      simp at ho; subst ho
      have h1 := h.1
      rw [hl] at h1
      rw [Nat.add_zero, ← hasBit_eq]
      cases hb : hasBit m k with
      | true => rfl
      | false => rw [hb] at h1; simp at h1
    | succ j =>
      rw [show k + (j + 1) = k + 1 + j by omega]
      exact needFrom_elim r (k + 1) h.2 j o (by simpa using ho) hl
theorem freeM_elim {ops : Array Oper} {L i : Nat} {oi : Oper} : ∀ (l : List Oper) (k : Nat), freeM ops L i oi k l = true → ∀ j o, l[j]? = some o → (k + j = i ∨ L.testBit (k + j) = true ∨ (emask o).testBit i = true ∨ oi.apart ops o = true)
  | [], _, _, j, o, h => by simp at h
  | p :: r, k, h, j, o, ho => by
    simp only [freeM, Bool.and_eq_true, Bool.or_eq_true, Nat.beq_eq, hasBit_eq] at h
    cases j with
    | zero =>
      simp at ho; subst ho
      rcases h.1 with ((h | h) | h) | h
      · exact .inl (by rw [Nat.add_zero]; exact h)
      · exact .inr (.inl (by simpa using h))
      · exact .inr (.inr (.inl h))
      · exact .inr (.inr (.inr h))
    | succ j =>
      have := freeM_elim r (k + 1) h.2 j o (by simpa using ho)
      rwa [show k + (j + 1) = k + 1 + j by omega]
theorem ready_nodup {ops : Array Oper} {listed : Array Bool} : (Region.ready .any ops listed).Nodup := by
  unfold Region.ready
  exact List.Pairwise.filter _ List.nodup_range
theorem masks_set {ops : Array Oper} {listed : Array Bool} {L i : Nat} (hs : listed.size = ops.size) (hm : Masks listed L) (hv : ∀ i, ops.size ≤ i → L.testBit i = false) (hi : i < ops.size) :
    (listed.setIfInBounds i true).size = ops.size ∧ Masks (listed.setIfInBounds i true) (Nat.lor L (bitN i)) ∧ ∀ k, ops.size ≤ k → (Nat.lor L (bitN i)).testBit k = false := by
  refine ⟨by simp [hs], ?_, ?_⟩
  · intro k d hk
    have hb : (Nat.lor L (bitN i)).testBit k = (L.testBit k || (bitN i).testBit k) := Nat.testBit_or _ _ _
    have hb2 : (bitN i).testBit k = decide (i = k) := Nat.testBit_two_pow
    rw [hb, hb2]
    by_cases hik : i = k
    · subst hik
      simp only [Array.getD_eq_getD_getElem?, decide_true, Bool.or_true]
      rw [Array.getElem?_setIfInBounds_self_of_lt (by omega)]; rfl
    · rw [getD_set_ne d hik, hm k d (by simpa using hk)]; simp [hik]
  · intro k hk
    have hb : (Nat.lor L (bitN i)).testBit k = (L.testBit k || (bitN i).testBit k) := Nat.testBit_or _ _ _
    have hb2 : (bitN i).testBit k = decide (i = k) := Nat.testBit_two_pow
    rw [hb, hb2, hv k hk]
    simp; omega
theorem noneRdy_nil {ops : Array Oper} {listed : Array Bool} {L : Nat} (hs : listed.size = ops.size) (hm : Masks listed L) (hv : ∀ i, ops.size ≤ i → L.testBit i = false) (h : noneRdy L 0 ops.toList = true) : Region.ready .any ops listed = [] := by
  apply List.eq_nil_iff_forall_not_mem.2
  intro k hk
  obtain ⟨o, ho⟩ := ready_bound hk
  have h1 := (ready_mask hs hm hv ho).1 hk
  have h2 := noneRdy_elim ops.toList 0 h k o (by simpa using ho)
  rw [Nat.zero_add] at h2
  rw [h1] at h2; simp at h2
end Go.Vc
