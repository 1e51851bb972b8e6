/- Code and functions: what 'vc' asks is enough for the model's calls: 'fnV_sound'. Conditions: none. -/
import Derived.Test.YtbnnpnillppdhaaVcSound4
import Derived.StillTail
import Derived.OrdersHeld
namespace Go.Vc
open Go

def QA (n : Nat) (ws : List Nat) (fr : Fr) (Q : Exit → Fr → World → Prop) : Exit → Act → World → Prop :=
  fun e a w => ∃ fr', Rep n a fr' ∧ agree ws fr fr' ∧ Q e fr' w

theorem lget_hav (j : Nat → Value) : ∀ (ws : List Nat) (fr : Fr) (i : Nat), lget (hav j ws fr) i = if memN i ws = true then j i else lget fr i
  | [], fr, i => by simp [hav, memN]
  | k :: r, fr, i => by
    simp only [hav, lget_cons, lget_hav j r fr i]
    by_cases hk : k = i
    · subst hk
      have : memN k (k :: r) = true := memN_mem (by simp)
      simp [this]
    · rw [if_neg hk]
      have hb : Nat.beq i k = false := by
        cases hb : Nat.beq i k with
        | false => rfl
        | true => exact absurd (Nat.eq_of_beq_eq_true hb).symm hk
      have : memN i (k :: r) = memN i r := by simp only [memN, hb]
      rw [this]
theorem hav_eq {ws : List Nat} {fr fr' : Fr} (h : agree ws fr fr') : ∀ i, lget (hav (lget fr') ws fr) i = lget fr' i := by
  intro i
  rw [lget_hav]
  split
  · rfl
  · rename_i hm; rw [h i (by simpa using hm)]
theorem agree_hav (ws : List Nat) (j : Nat → Value) (fr : Fr) : agree ws fr (hav j ws fr) := by
  intro i hi
  rw [lget_hav, hi]; simp
theorem agree_setS {ws : List Nat} : ∀ (l : List (Nat × Ty)) (x : Tys (l.map Prod.snd)) (fr fr' : Fr), slotsIn ws l = true → agree ws fr fr' → agree ws fr (setS l x fr')
  | [], _, _, _, _, h => h
  | [(i, t)], x, fr, fr', hs, h => by
    have hm : memN i ws = true := by unfold slotsIn at hs; cases hq : memN i ws <;> simp_all
    exact h.lset hm _
  | (i, t) :: p :: r, x, fr, fr', hs, h => by
    have hm : memN i ws = true := by unfold slotsIn at hs; cases hq : memN i ws <;> simp_all
    have hs' : slotsIn ws (p :: r) = true := by unfold slotsIn at hs; rw [hm] at hs; exact hs
    exact agree_setS (p :: r) x.2 fr _ hs' (h.lset hm _)
theorem setS_self : ∀ (l : List (Nat × Ty)) (x : Tys (l.map Prod.snd)) (fr fr' : Fr), (l.map fun p => lget fr p.1) = encTys (l.map Prod.snd) x → (∀ i, lget fr' i = lget fr i) → ∀ i, lget (setS l x fr') i = lget fr i
  | [], _, _, _, _, he => he
  | [(i, t)], x, fr, fr', h, he => by
    have h' : [lget fr i] = [t.enc x] := h
    intro k
    show lget (lset fr' i (t.enc x)) k = _
    rw [lget_lset, ← (List.cons.inj h').1]
    split
    · rename_i e; rw [e]
    · exact he k
  | (i, t) :: p :: r, x, fr, fr', h, he => by
    have h' : lget fr i :: ((p :: r).map fun p => lget fr p.1) = t.enc x.1 :: encTys ((p :: r).map Prod.snd) x.2 := h
    show ∀ k, lget (setS (p :: r) x.2 (lset fr' i (t.enc x.1))) k = _
    refine setS_self (p :: r) x.2 fr _ (List.cons.inj h').2 fun k => ?_
    rw [lget_lset, ← (List.cons.inj h').1]
    split
    · rename_i e; rw [e]
    · exact he k
theorem getS_elim {l : List (Nat × Ty)} {fr : Fr} {K : Tys (l.map Prod.snd) → Prop} (h : getS l fr K) : ∃ x, (∀ fr', (∀ i, lget fr' i = lget fr i) → ∀ i, lget (setS l x fr') i = lget fr i) ∧ K x := by
  obtain ⟨x, hx, hk⟩ := decTys_elim _ _ _ h
  exact ⟨x, fun fr' he => setS_self l x fr fr' hx he, hk⟩

theorem exists_least {p : Nat → Prop} (h : ∃ n, p n) : ∃ n, p n ∧ ∀ m, p m → n ≤ m := by
  obtain ⟨n, hn⟩ := h
  induction n using Nat.strongRecOn with
  | _ n ih =>
    by_cases hm : ∃ m, m < n ∧ p m
    · obtain ⟨m, hlt, hp⟩ := hm
      exact ih m hlt hp
    · exact ⟨n, hn, fun m hp => Nat.le_of_not_lt fun hlt => hm ⟨m, hlt, hp⟩⟩
open Classical in
noncomputable def least (p : Nat → Prop) : Nat := if h : ∃ n, p n ∧ ∀ m, p m → n ≤ m then Classical.choose h else 0
theorem least_spec {p : Nat → Prop} (h : ∃ n, p n) : p (least p) ∧ ∀ m, p m → least p ≤ m := by
  have := exists_least h
  unfold least
  rw [dif_pos this]
  exact Classical.choose_spec this

def NoP (Q : Exit → Act → World → Prop) : Exit → Act → World → Prop
  | .panic _, _, _ => False
  | e, a, w => Q e a w
theorem NoP.imp {Q : Exit → Act → World → Prop} : ∀ (e : Exit) (a : Act) (w : World), NoP Q e a w → Q e a w := fun e a w h => by cases e <;> first | exact h | exact h.elim
theorem ldH_sound {S : World → Prop} {A : Addr} : ∀ {T : Ty} {K : T.T → Prop}, ldH S A T K → ∃ x, (∀ w, S w → ldV w A T fun y => y = x) ∧ K x
  | .one _, _, ⟨x, hx, hk⟩ => ⟨x, fun w hs => ⟨x, hx w hs, rfl⟩, hk⟩
  | .agg _, _, ⟨x, hx, hk⟩ => ⟨x, fun w hs => ⟨x, hx w hs, rfl⟩, hk⟩
  | .big _, _, ⟨x, hn, hx, hk⟩ => ⟨x, fun w hs => ⟨x, hn, hx w hs, rfl⟩, hk⟩
theorem drawV_sound {P : Program} {n : Nat} {ops : Array Oper} {S : World → Prop} {fr0 : Fr} {K : Fr → World → Prop} {Q : Exit → Act → World → Prop}
    (hn : Region.noSelect ops = true) (hdn : ∀ o ∈ ops.toList, ∀ d, o.dst = some d → d < n) (hQ : ∀ a fr' w', Rep n a fr' → agree (wOps ops.toList) fr0 fr' → K fr' w' → Q .normal a w') :
    ∀ (l : List Nat) (listed : Array Bool) (a : Act) (fr : Fr) (w : World), drawOk P ops l listed = true → S w → Rep n a fr → agree (wOps ops.toList) fr0 fr → drawV P ops.toList S K l fr w →
      wpAnyH P .any ops (NoP Q) S l.length listed a w
  | [], listed, a, fr, w, hd, hS, hr, ha, h => by
    simp only [drawOk, beq_iff_eq] at hd
    exact wpAnyH_done (P := P) (S := S) (Q := NoP Q) hd (hQ a fr w hr ha h) 0
  | i :: r, listed, a, fr0', w, hd, hS, hr0, ha0, h => by
    simp only [drawOk, Bool.and_eq_true] at hd
    obtain ⟨h1, hd⟩ := hd
    unfold drawV at h
    split at h
    · rename_i o ho
      have ho' : ops[i]? = some o := by simpa using ho
      have hmem : o ∈ ops.toList := List.mem_of_getElem? ho
      obtain ⟨fr, hr, hag, h⟩ := guardV_elim hr0 h
      have ha := ha0.trans (hag _ fun o ho d hd => memN_wOps ho hd)
      have hput : ∀ v, agree (wOps ops.toList) fr0 (lput fr o.dst v) := fun v => ha.lput (fun d hd => memN_wOps hmem hd) v
      have hrput : ∀ v, Rep n (a.put o.dst v) (lput fr o.dst v) := fun v => hr.put (hdn o hmem) v
      rw [ho'] at h1
      simp only at h1
      -- taken first
      have take : ∀ v, takeOp P o = true → YieldsIf P ops S o v a → drawV P ops.toList S K r (lput fr o.dst v) w → wpAnyH P .any ops (NoP Q) S (i :: r).length listed a w := by
        intro v ht hy hk
        rw [ht] at h1
        simp only [Bool.and_eq_true] at h1
        refine wpAnyH_take ho' hn h1.2 h1.1 (fun c a w h => h) hy hS ?_
        exact drawV_sound hn hdn hQ r _ _ _ w hd hS (hrput v) (hput v) hk
      rcases h with ⟨hw, h⟩ | ⟨hw, h⟩
      · unfold opH at h
        split at h
        · rename_i hp
          obtain ⟨v, hv, _, hk⟩ := opS_run h
          exact take v (by simp [takeOp, hp]) (.inl ⟨hw, fun w' _ => by rw [hr.ev]; exact hv hp w'⟩) hk
        · rename_i hp
          -- what an operation does that is not taken first
          have eff : takeOp P o = false → opV P (ev fr) o w (fun v w' => S w' ∧ drawV P ops.toList S K r (lput fr o.dst v) w') →
              wpAnyH P .any ops (NoP Q) S (i :: r).length listed a w := by
            intro ht hv
            rw [ht] at h1
            simp only [beq_iff_eq] at h1
            refine wpAnyH_all h1 (by simp) fun j hj => ?_
            obtain rfl : j = i := by simpa using hj
            unfold wpOp
            simp only [ho', hw, if_true]
            refine .inl (Oper.wp_mono ?_ (opV_sound hr (hdn o hmem) hv))
            rintro a2 w' ⟨v, hr2, hs, hk⟩
            exact ⟨hs, drawV_sound hn hdn hQ r _ _ _ w' hd hs hr2 (hput v) hk⟩
          cases hop : o.op <;> rw [hop] at h <;> first
            | exact eff (by simp [takeOp, hp, hop]) h
            | skip
          rename_i t a0
          simp only at h
          split at h
          · rename_i hok
            split at h
            · rename_i p hpp
              obtain ⟨A, rfl, h⟩ := onP_elim h
              obtain ⟨x, hx, hk⟩ := ldH_sound h
              refine take _ (by simp [takeOp, hp, hop]) (.inl ⟨hw, fun w' hs => ?_⟩) hk
              obtain ⟨y, hy, rfl⟩ := loadVar_sound hok (hx w' hs)
              rw [hr.ev]
              simp only [execOp, hop, Instr.loadAt, Sem.run_bind, hpp, Instr.sureAddr, Sem.run_pure, Result.andThen_ok, hy]
            · exact h.elim
          · exact h.elim
      · cases ht : takeOp P o with
        | true => exact take undef ht (.inr ⟨hw, rfl⟩) h
        | false =>
          rw [ht] at h1
          simp only [beq_iff_eq] at h1
          refine wpAnyH_all h1 (by simp) fun j hj => ?_
          obtain rfl : j = i := by simpa using hj
          unfold wpOp
          simp only [ho', hw, Bool.false_eq_true, if_false]
          exact ⟨hS, drawV_sound hn hdn hQ r _ _ _ w hd hS (hrput undef) (hput undef) h⟩
    · exact h.elim

theorem dstOk_elim {n : Nat} : ∀ {l : List Oper}, dstOk n l = true → ∀ o ∈ l, ∀ d, o.dst = some d → d < n
  | [], _, o, ho, _, _ => by simp at ho
  | p :: r, h, o, ho, d, hd => by
    simp only [dstOk, Bool.and_eq_true] at h
    rcases List.mem_cons.1 ho with rfl | ho
    · have := h.1
      rw [hd] at this
      simpa [Nat.blt_eq] using this
    · exact dstOk_elim h.2 o ho d hd

theorem vc_sound {P : Program} {n : Nat} : ∀ (c : Code) (h : HT) (Q : Exit → Fr → World → Prop) (a : Act) (fr : Fr) (w : World), chk P n c h = true → Rep n a fr → vc P c h Q fr w → c.wp P (QA n (writes c) fr Q) a w
  | .skip, h, Q, a, fr, w, _, hr, hv => wp_skip ⟨fr, hr, agree.refl _ _, hv⟩
  | .label l, h, Q, a, fr, w, _, hr, hv => wp_label ⟨fr, hr, agree.refl _ _, hv⟩
  | .exit id, h, Q, a, fr, w, _, hr, hv => wp_exit ⟨fr, hr, agree.refl _ _, hv⟩
  | .ret, h, Q, a, fr, w, _, hr, hv => wp_ret ⟨fr, hr, agree.refl _ _, hv⟩
  | .region id ops d, h, Q, a, fr, w, hc, hr, hv => by
    simp only [chk, Bool.and_eq_true] at hc
    obtain ⟨hdn, hc⟩ := hc
    have hdn := dstOk_elim hdn
    have hws : ∀ o ∈ ops.toList, ∀ d, o.dst = some d → memN d (wOps ops.toList) = true := fun o ho d hd => memN_wOps ho hd
    have fin : ∀ a fr' w', Rep n a fr' → agree (wOps ops.toList) fr fr' → Q .normal fr' w' → QA n (wOps ops.toList) fr Q .normal a w' := fun a fr' w' hr ha hk => ⟨fr', hr, ha, hk⟩
    cases d with
    | false =>
      simp only [vc] at hv
      exact wp_region_list (opsV_sound hws hdn fin _ a fr w (fun _ h => h) hr (agree.refl _ _) hv)
    | true =>
      cases h with
      | rg k =>
        simp only [vc] at hv
        simp only [Bool.and_eq_true, Bool.or_eq_true] at hc
        obtain ⟨hm, hc⟩ := hc
        have htl : ∀ o ∈ ops.toList.take k, o ∈ ops.toList := fun o ho => List.mem_of_mem_take ho
        have hdl : ∀ o ∈ ops.toList.drop k, o ∈ ops.toList := fun o ho => List.mem_of_mem_drop ho
        rcases hc with ⟨_, hB⟩ | ⟨hn, hB⟩
        · have := wp_region_still_tail (P := P) (id := id) (Q := QA n (wOps ops.toList) fr Q) (a := a) (w := w) (l := ops.toList) k hm hB
            (stillV_sound (ops := ops.toList.toArray) (ws := wOps ops.toList) (fr0 := fr) (K := fun fr' => opsV P ops.toList (Q .normal) (ops.toList.drop k) fr' w.drew)
              (by simpa using hws) (by simpa using hdn)
              (fun a' fr' hr' ha hk => opsV_sound (ops := ops.toList.toArray) (ws := wOps ops.toList) (fr0 := fr) (K := Q .normal) (by simpa using hws) (by simpa using hdn) fin _ a' fr' w.drew (by simpa using hdl) hr' ha (by simpa using hk))
              _ a fr (by simpa using htl) hr (agree.refl _ _) (by simpa using hv))
          simpa [writes] using this
        · have hn' : ops.toList.length ≤ k := by simpa using hn
          have hv' : stillV P ops.toList w.drew (fun fr' => Q .normal fr' w.drew) ops.toList fr := by
            rw [List.take_of_length_le hn', List.drop_eq_nil_of_le hn'] at hv
            exact hv
          exact wp_region_still hm hB (stillV_sound (ops := ops) (ws := wOps ops.toList) (fr0 := fr) (K := fun fr' => Q .normal fr' w.drew) hws hdn
              (fun a' fr' hr' ha hk => ⟨fr', hr', ha, hk⟩) _ a fr (fun _ h => h) hr (agree.refl _ _) hv')
      | dr l =>
        simp only [vc] at hv
        simp only [Bool.and_eq_true] at hc
        obtain ⟨⟨⟨hm, hn⟩, hl⟩, hd⟩ := hc
        obtain ⟨S, hS, hv⟩ := hv
        have hd := drawOkM_sound l 0 (Array.replicate ops.size false) (by simp) (fun k d hk => by
          have hk' : k < ops.size := by simpa using hk
          simp [Array.getD_eq_getD_getElem?, hk']) (by simp) hd
        have hl : l.length = ops.size := by simpa using Nat.eq_of_beq_eq_true hl
        have := drawV_sound (P := P) (Q := QA n (wOps ops.toList) fr Q) (K := Q .normal) (fr0 := fr) hn hdn fin l _ a fr w.drew hd hS hr (agree.refl _ _) hv
        rw [hl] at this
        exact wp_mono (wp_region_held hm this) NoP.imp
      | _ => simp [vc] at hv
  | .seq a b, h, Q, ac, fr, w, hc, hr, hv => by
    have plain : ∀ ha hb, chk P n a ha = true → chk P n b hb = true → vc P a ha (thenV (vc P b hb Q) Q) fr w → (Code.seq a b).wp P (QA n (writes (.seq a b)) fr Q) ac w := by
      intro ha hb hca hcb hv
      refine wp_seq (wp_mono (vc_sound a ha _ ac fr w hca hr hv) ?_)
      rintro e a' w' ⟨fr', hr', hag, hq⟩
      cases e with
      | normal =>
        refine wp_mono (vc_sound b hb Q a' fr' w' hcb hr' hq) ?_
        rintro e2 a2 w2 ⟨fr2, hr2, hag2, hq2⟩
        exact ⟨fr2, hr2, hag.left.trans hag2.right, hq2⟩
      | _ => exact ⟨fr', hr', hag.left, hq⟩
    cases h with
    | jn l ha hb =>
      simp only [vc] at hv
      simp only [chk, Bool.and_eq_true] at hc
      obtain ⟨⟨hs, hca⟩, hcb⟩ := hc
      obtain ⟨R, h1, h2⟩ := hv
      refine wp_seq (wp_mono (vc_sound a ha _ ac fr w hca hr h1) ?_)
      rintro e a' w' ⟨fr', hr', hag, hq⟩
      cases e with
      | normal =>
        obtain ⟨x, hx, hR⟩ := getS_elim hq
        have hv2 := h2 x (lget fr') w' hR
        have hfr := hx _ (hav_eq hag)
        refine wp_mono (vc_sound b hb Q a' _ w' hcb (hr'.eqv hfr) hv2) ?_
        rintro e2 a2 w2 ⟨fr2, hr2, hag2, hq2⟩
        refine ⟨fr2, hr2, ?_, hq2⟩
        have h1 : agree (writes a) fr (setS l x (hav (lget fr') (writes a) fr)) := agree_setS l x fr _ hs (agree_hav _ _ _)
        exact h1.left.trans hag2.right
      | _ => exact ⟨fr', hr', hag.left, hq⟩
    | j3 l ha hb hcc =>
      cases b with
      | seq b c =>
        simp only [vc] at hv
        simp only [chk, Bool.and_eq_true] at hc
        obtain ⟨⟨⟨hs, hca⟩, hcb⟩, hcc'⟩ := hc
        obtain ⟨R, h1, h2⟩ := hv
        refine wp_seq (wp_mono (vc_sound a ha _ ac fr w hca hr h1) ?_)
        rintro e a' w' ⟨fr', hr', hag, hq⟩
        cases e with
        | normal =>
          refine wp_seq (wp_mono (vc_sound b hb _ a' fr' w' hcb hr' hq) ?_)
          rintro e2 a2 w2 ⟨fr2, hr2, hag2, hq2⟩
          have hag12 : agree (writes a ++ writes b) fr fr2 := hag.left.trans hag2.right
          have hws : ∀ {x y}, agree (writes a ++ writes b) x y → agree (writes (.seq a (.seq b c))) x y := fun {x y} h => by
            have : agree ((writes a ++ writes b) ++ writes c) x y := h.left
            simpa [writes, List.append_assoc] using this
          cases e2 with
          | normal =>
            obtain ⟨x, hx, hR⟩ := getS_elim hq2
            have hv2 := h2 x (lget fr2) w2 hR
            have hfr := hx _ (hav_eq hag12)
            refine wp_mono (vc_sound c hcc Q a2 _ w2 hcc' (hr2.eqv hfr) hv2) ?_
            rintro e3 a3 w3 ⟨fr3, hr3, hag3, hq3⟩
            refine ⟨fr3, hr3, ?_, hq3⟩
            have h1 : agree (writes a ++ writes b) fr (setS l x (hav (lget fr2) (writes a ++ writes b) fr)) := agree_setS l x fr _ hs (agree_hav _ _ _)
            exact (hws h1).trans ((hag3.right (a := writes b)).right (a := writes a))
          | _ => exact ⟨fr2, hr2, hws hag12, hq2⟩
        | _ => exact ⟨fr', hr', hag.left, hq⟩
      | _ => simp [vc] at hv
    | _ =>
      simp only [vc] at hv
      simp only [chk, Bool.and_eq_true] at hc
      exact plain _ _ hc.1 hc.2 hv
  | .cond t x y, h, Q, a, fr, w, hc, hr, hv => by
    simp only [vc] at hv
    simp only [chk, Bool.and_eq_true] at hc
    split at hv
    · rename_i b hb
      have he : a.eval t = .bool b := by rw [hr.ev]; exact hb
      rcases cnd_elim hv with ⟨rfl, hv⟩ | ⟨rfl, hv⟩
      · refine wp_cond_true he (wp_mono (vc_sound x h.one Q a fr w hc.1 hr hv) ?_)
        rintro e a' w' ⟨fr', hr', hag, hq⟩
        exact ⟨fr', hr', hag.left, hq⟩
      · refine wp_cond_false he (wp_mono (vc_sound y h.two Q a fr w hc.2 hr hv) ?_)
        rintro e a' w' ⟨fr', hr', hag, hq⟩
        exact ⟨fr', hr', hag.right, hq⟩
    · exact hv.elim
  | .block id c, h, Q, a, fr, w, hc, hr, hv => by
    simp only [vc] at hv
    simp only [chk] at hc
    refine wp_block (wp_mono (vc_sound c h.one _ a fr w hc hr hv) ?_)
    rintro e a' w' ⟨fr', hr', hag, hq⟩
    cases e with
    | exit i =>
      simp only [inBlockV] at hq
      simp only [Exit.inBlock]
      split at hq
      · rename_i hb
        rw [if_pos (Nat.eq_of_beq_eq_true hb)]
        exact ⟨fr', hr', hag, hq⟩
      · rename_i hb
        rw [if_neg (Nat.ne_of_beq_eq_false hb)]
        exact ⟨fr', hr', hag, hq⟩
    | _ => exact ⟨fr', hr', hag, hq⟩
  | .loop c, h, Q, a, fr, w, hc, hr, hv => by
    cases h with
    | lp l hb =>
      simp only [vc] at hv
      simp only [chk, Bool.and_eq_true] at hc
      obtain ⟨hs, hcb⟩ := hc
      obtain ⟨I, h0, hround⟩ := hv
      obtain ⟨x0, hx0, n0, hI0⟩ := getS_elim h0
      let J : Act → World → Nat → Prop := fun a w m => ∃ fr' x, Rep n a fr' ∧ agree (writes c) fr fr' ∧ (∀ fr2, (∀ i, lget fr2 i = lget fr' i) → ∀ i, lget (setS l x fr2) i = lget fr' i) ∧ I m x w
      refine wp_loop (fun a w => ∃ m, J a w m) (fun a w => least (J a w)) ⟨n0, fr, x0, hr, agree.refl _ _, hx0, hI0⟩ ?_
      intro a w hJ
      obtain ⟨⟨fr', x, hr', hag, hx, hI⟩, hmin⟩ := least_spec hJ
      have hrd := hround _ x (lget fr') w hI
      have hfr := hx _ (hav_eq hag)
      refine wp_mono (vc_sound c hb _ a _ w hcb (hr'.eqv hfr) hrd) ?_
      rintro e a2 w2 ⟨fr2, hr2, hag2, hq⟩
      have hag3 : agree (writes c) fr fr2 := (agree_setS l x fr _ hs (agree_hav _ _ _)).trans hag2
      cases e with
      | normal =>
        obtain ⟨x', hx', m, hm, hI'⟩ := getS_elim hq
        have hJ2 : J a2 w2 m := ⟨fr2, x', hr2, hag3, hx', hI'⟩
        exact ⟨⟨m, hJ2⟩, Nat.lt_of_le_of_lt ((least_spec ⟨m, hJ2⟩).2 m hJ2) hm⟩
      | _ => exact ⟨fr2, hr2, hag3, hq⟩
    | _ => simp [vc] at hv
  | .scope c, h, Q, a, fr, w, hc, hr, hv => by simp [vc] at hv
  | .goto l, h, Q, a, fr, w, hc, hr, hv => by simp [vc] at hv
  | .refuse m, h, Q, a, fr, w, hc, hr, hv => by simp [vc] at hv
  | .rangeFunc f p x b, h, Q, a, fr, w, hc, hr, hv => by simp [vc] at hv
termination_by c => SizeOf.sizeOf c

theorem initF_get : ∀ (l : List Value) (k i : Nat), lget (initF l k) i = if k ≤ i then (l[i - k]?).getD undef else undef
  | [], k, i => by simp [initF, lget]
  | v :: r, k, i => by
    simp only [initF, lget_cons, initF_get r (k + 1) i]
    rcases Nat.lt_trichotomy k i with h | rfl | h
    · rw [if_neg (Nat.ne_of_lt h), if_pos (by omega), if_pos (by omega), show i - k = (i - (k + 1)) + 1 by omega]
      simp
    · simp
    · rw [if_neg (Nat.ne_of_gt h), if_neg (by omega), if_neg (by omega)]

def resOp (fr : Fr) : ResultVar → Sem Value
  | .tmp t => pure (lget fr t)
  | .cell a t => do loadVar t (← asAddr (lget fr a))
theorem resV_sound {P : Program} {fr : Fr} {w : World} : ∀ (rs : List ResultVar) (K : List Value → Prop), resV P fr w rs K →
    ∃ vs, Sem.run P (rs.mapM (resOp fr)) w = .ok vs w ∧ vs.length = rs.length ∧ K vs
  | [], K, h => ⟨[], by simp, rfl, h⟩
  | .tmp t :: r, K, h => by
    obtain ⟨vs, hr, hl, hk⟩ := resV_sound r _ h
    exact ⟨_, by simp only [List.mapM_cons, Sem.run_bind, resOp, Sem.run_pure, Result.andThen_ok, hr], by simp [hl], hk⟩
  | .cell a t :: r, K, h => by
    unfold resV at h
    split at h
    · rename_i hok
      split at h
      · rename_i p hp
        obtain ⟨A, rfl, h⟩ := onP_elim h
        obtain ⟨x, hx, h⟩ := loadVar_sound hok h
        obtain ⟨vs, hr, hl, hk⟩ := resV_sound r _ h
        exact ⟨_, by simp only [List.mapM_cons, Sem.run_bind, resOp, Sem.run_pure, Result.andThen_ok, hr, hp, asAddr, hx], by simp [hl], hk⟩
      · exact h.elim
    · exact h.elim

theorem fnV_sound {P : Program} {f : FuncId} {fn : Func} {rt : List Ty} {h : HT} {args : List Value} {w : World} {R : Tys rt → World → Prop}
    (hf : P.funcs[f]? = some fn) (hn : (fn.name == "runtime.NumGoroutine") = false) (hc : (match fn.body with | some c => Nat.ble args.length fn.ntmps && chk P fn.ntmps c h | none => false) = true)
    (hv : fnV P fn rt h args w R) : CallT rt P f args w R := by
  unfold fnV at hv
  cases hb : fn.body with
  | none => rw [hb] at hv; exact hv.elim
  | some c =>
    rw [hb] at hv hc
    refine ⟨⟨fn, c, hf, hb, hn⟩, ?_⟩
    simp only [Bool.and_eq_true, Nat.ble_eq] at hc
    refine calls_of_wp hf hb ?_
    have hrep : Rep fn.ntmps ⟨args.toArray ++ Array.replicate (fn.ntmps - args.toArray.size) undef, []⟩ (initF args 0) := by
      refine ⟨rfl, by simp; omega, fun i => ?_⟩
      rw [initF_get]
      simp only [Nat.zero_le, if_true, Nat.sub_zero, Array.getD_eq_getD_getElem?, Array.getElem?_append]
      split
      · simp
      · rename_i hi
        have hi' : args.length ≤ i := by simpa using hi
        rw [List.getElem?_eq_none hi', Array.getElem?_replicate]
        split <;> rfl
    refine wp_mono (vc_sound c h _ _ _ w hc.2 hrep hv) ?_
    have fin : ∀ (a' : Act) (fr' : Fr) (w' : World), Rep fn.ntmps a' fr' → (resV P fr' w' fn.results.toList fun vs => decTys rt vs fun x => R x w') →
        ∃ v, (results fn a'.tmps).run P w' = .ok v w' ∧ ∃ x, Ending.returned v = .returned (encR rt x) ∧ R x w' := by
      intro a' fr' w' hrep' hr
      obtain ⟨vs, hvs, hl, hk⟩ := resV_sound _ _ hr
      obtain ⟨x, hx, hk⟩ := decTys_elim _ _ _ hk
      refine ⟨encR rt x, ?_, x, rfl, hk⟩
      have hr' : results fn a'.tmps = (do
          let vs ← fn.results.mapM (resOp fr')
          pure (if h : vs.size = 1 then vs[0] else .tuple vs) : Sem Value) := by
        unfold results
        congr 1
        congr 1
        funext r
        cases r <;> simp only [resOp, hrep'.get]
      rw [hr', Array.mapM_eq_mapM_toList]
      simp only [Sem.run_bind, Sem.run_map, hvs, Result.andThen_ok, Sem.run_pure]
      congr 1
      match rt, x, hx with
      | [], x, hx => subst hx; simp [encTys, encR]
      | [t], x, hx => subst hx; simp [encTys, encR]
      | s :: t :: r, x, hx =>
        subst hx
        have : ¬ (encTys (s :: t :: r) x).toArray.size = 1 := by
          simp only [List.size_toArray, encTys, List.length_cons]
          have : ∀ (l : List Ty) (y : Tys l), (encTys l y).length = l.length := by
            intro l
            induction l with
            | nil => intro y; rfl
            | cons a l ih =>
              intro y
              cases l with
              | nil => rfl
              | cons b l => simp only [encTys, List.length_cons]; rw [ih]; rfl
          rw [this]; simp
        rw [dif_neg this]
    rintro e a' w' ⟨fr', hrep', _, hq⟩
    cases e with
    | normal => exact ⟨hrep'.defers, fin a' fr' w' hrep' hq⟩
    | ret => exact ⟨hrep'.defers, fin a' fr' w' hrep' hq⟩
    | _ => exact hq.elim
end Go.Vc
