/- Operations, regions, code, functions: what 'vc' asks is enough for the model's calls. Conditions: none. -/
import Derived.Test.YtinolellciikoaaVcSound2
namespace Go.Vc
open Go

/-- What stands behind an operation. -/
def Next' (n : Nat) (fr : Fr) (o : Oper) (K : Value → World → Prop) : Act → World → Prop :=
  fun a' w' => ∃ v, Rep n a' (lput fr o.dst v) ∧ K v w'
theorem wp_value {P : Program} {n : Nat} {a : Act} {fr : Fr} {o : Oper} {w w' : World} {v : Value} {K : Value → World → Prop} {Q : Exit → Act → World → Prop}
    (ha : Rep n a fr) (hd : ∀ i, o.dst = some i → i < n) (hr : (execOp (ev fr) o).run P w = .ok (.value v) w') (hk : K v w') : o.wp P a w (Next' n fr o K) Q := by
  unfold Oper.wp
  rw [ha.ev, hr]
  exact ⟨v, ha.put hd v, hk⟩
theorem wp_skipped {P : Program} {n : Nat} {a : Act} {fr : Fr} {o : Oper} {w w' : World} {K : Value → World → Prop} {Q : Exit → Act → World → Prop}
    (ha : Rep n a fr) (hd : ∀ i, o.dst = some i → i < n) (hr : (execOp (ev fr) o).run P w = .ok .skip w') (hk : K undef w') : o.wp P a w (Next' n fr o K) Q := by
  unfold Oper.wp
  rw [ha.ev, hr]
  exact ⟨undef, ha.put hd undef, hk⟩
theorem run_value {P : Program} {s : Sem Value} {w w' : World} {v : Value} (h : s.run P w = .ok v w') : (do pure (Next.value (← s)) : Sem Next).run P w = .ok (.value v) w' := by
  simp only [Sem.run_bind, h, Result.andThen_ok, Sem.run_pure]

theorem oneV_elim {v : Value} {K : Prop} (h : oneV v K) : v.oneCell' = true ∧ K := by cases v <;> simp_all [oneV, Value.oneCell']
theorem allOne_elim : ∀ {l : List Value} {K : Prop}, allOne l K → (∀ v ∈ l, v.oneCell' = true) ∧ K
  | [], _, h => ⟨by simp, h⟩
  | v :: r, _, h => by
    obtain ⟨h1, h⟩ := oneV_elim h
    obtain ⟨h2, h⟩ := allOne_elim h
    exact ⟨by simp_all, h⟩
theorem isSome_setCell (w : World) (a b : Addr) (v : Value) : ((w.setCell a v).cell? b).isSome = (w.cell? b).isSome := by
  by_cases h : a = b
  · subst h
    cases hc : w.cell? a with
    | some u => rw [World.cell?_setCell_same w a v hc]; rfl
    | none =>
      simp only [World.setCell, World.cell?, Array.getElem?_modify] at hc ⊢
      cases hh : w.heap[a.block]? with
      | none => simp
      | some x =>
        cases x <;> simp_all
  · rw [World.cell?_setCell_other w a b v h]
theorem storeCells_run {P : Program} {A : Addr} : ∀ (vs : List Value) (i : Nat) (w : World), (∀ v ∈ vs, v.oneCell' = true) →
    (∀ j, j < vs.length → (w.cell? (A.add (i + j))).isSome = true ∧ w.frozen? (A.add (i + j)) = false) →
    (storeCells A vs i).run P w = .ok () (setCells w A i vs)
  | [], i, w, _, _ => rfl
  | v :: r, i, w, hv, hc => by
    have h0 := hc 0 (by simp)
    simp only [Nat.add_zero] at h0
    obtain ⟨u, hu⟩ := Option.isSome_iff_exists.1 h0.1
    have hs : (store (A.add i) v).run P w = .ok () (w.setCell (A.add i) v) := by
      rw [run_store P w _ _ _ (hv v (by simp)), hu]
      simp [h0.2]
    simp only [storeCells, Sem.run_bind, hs, Result.andThen_ok, setCells]
    refine storeCells_run r (i + 1) _ (fun x hx => hv x (by simp [hx])) (fun j hj => ?_)
    have := hc (j + 1) (by simp; omega)
    rw [isSome_setCell, World.frozen?_setCell, show i + 1 + j = i + (j + 1) by omega]
    exact this
theorem stV_sound {P : Program} {w : World} {A : Addr} {t : TypeId} {v : Value} {K : World → Prop} (h : stV P w A t v K) : ∃ w', (storeVar t A v).run P w = .ok () w' ∧ K w' := by
  unfold stV at h
  split at h
  · exact h.elim
  · rename_i hok
    obtain ⟨d, n, hu, hs, hone, hagg, hbig⟩ := ldOk_elim hok
    split at h
    · rename_i s ht
      obtain ⟨h1, h2, h3, hk⟩ := oneV_elim h
      refine ⟨_, ?_, hk⟩
      have hc : v.cells = #[v] := by cases v <;> simp_all [Value.cells, Value.oneCell']
      have hn : n = 1 := hone s ht
      have := storeCells_run (P := P) (A := A) [v] 0 w (by simpa using h1) (by intro j hj; simp at hj; subst hj; simpa [Addr.add] using ⟨h2, h3⟩)
      simp only [storeVar, Sem.run_bind, run_szOf hs, Result.andThen_ok, hc, hn]
      simpa [setCells, Addr.add] using this
    · rename_i l ht
      split at h
      · rename_i cs
        split at h
        · rename_i hl
          obtain ⟨h1, h2, hk⟩ := allOne_elim h
          refine ⟨_, ?_, hk⟩
          have hn : n = cs.size := by rw [hagg l ht]; simpa using (Nat.eq_of_beq_eq_true hl).symm
          have := storeCells_run (P := P) (A := A) cs.toList 0 w h1 (fun j hj => by simpa using h2 j hj)
          simp only [storeVar, Sem.run_bind, run_szOf hs, Result.andThen_ok, Value.cells, hn]
          simpa using this
        · exact h.elim
      · exact h.elim
    · rename_i m ht
      split at h
      · rename_i cs
        obtain ⟨hl, h1, h2, hk⟩ := h
        refine ⟨_, ?_, hk⟩
        have hn : n = cs.size := by rw [hbig m ht]; simpa using hl.symm
        have := storeCells_run (P := P) (A := A) cs.toList 0 w (fun v hv => (oneV_elim (h1 v hv)).1) (fun j hj => by simpa using h2 j hj)
        simp only [storeVar, Sem.run_bind, run_szOf hs, Result.andThen_ok, Value.cells, hn]
        simpa using this
      · exact h.elim

theorem reps_length (z : List Value) : ∀ n, (reps n z).length = n * z.length
  | 0 => by simp [reps]
  | n + 1 => by simp [reps, reps_length z n, Nat.succ_mul, Nat.add_comm]
theorem reps_get (z : List Value) : ∀ (n i : Nat), i < n * z.length → (reps n z)[i]? = z[i % z.length]?
  | 0, i, h => by simp at h
  | n + 1, i, h => by
    simp only [reps]
    rcases Nat.lt_or_ge i z.length with h' | h'
    · rw [List.getElem?_append_left h', Nat.mod_eq_of_lt h']
    · rw [List.getElem?_append_right h', reps_get z n _ (by rw [Nat.succ_mul] at h; omega), ← Nat.mod_eq_sub_mod h']
theorem range_reps (z : Array Value) (n : Nat) : (Array.range (n * z.size)).map (fun i => z[i % z.size]!) = (reps n z.toList).toArray := by
  apply Array.ext'
  apply List.ext_getElem?
  intro i
  simp only [Array.toList_map, Array.toList_range, List.getElem?_map]
  rcases Nat.lt_or_ge i (n * z.size) with h | h
  · rw [List.getElem?_range h]
    have hz : i % z.size < z.size := Nat.mod_lt _ (by
      rcases Nat.eq_zero_or_pos z.size with h0 | h0
      · rw [h0] at h; simp at h
      · exact h0)
    have := reps_get z.toList n i (by simpa using h)
    simp only [Option.map_some, this, Array.length_toList]
    simp [hz]
  · rw [List.getElem?_eq_none (by simpa using h), List.getElem?_eq_none (by rw [reps_length]; simpa using h)]
    rfl
theorem bSliceV_sound {P : Program} {t : TypeId} {len : Nat} {parts : List (Nat × Value)} {w : World} {K : SV → World → Prop} (h : bSliceV P t len parts w K) :
    ∃ s w', (Instr.buildSlice t len parts.toArray).run P w = .ok (.slice s.a s.len s.cap) w' ∧ K s w' := by
  unfold bSliceV at h
  split at h
  · rename_i e hu
    obtain ⟨n, hn, h⟩ := szV_elim h
    have full : ∀ (z cs : List Value), zeroL P e = some z → ¬ len * n = 0 → len * n ≤ 16777216 → z.length = n → Instr.fill (fun i => some (i * n, n)) (reps len z).toArray parts = some cs.toArray →
        (Instr.buildSlice t len parts.toArray).run P w = .ok (.slice (some ⟨w.heap.size, 0, none⟩) len len) (w.alloc (.cells cs.toArray e)) := by
      intro z cs hz' h0 hroom0 hzn hf
      have hroom : ¬ len * n > 2 ^ 24 := by omega
      obtain ⟨zv, hzr, hzl⟩ := run_zeroL hz'
      simp only [Instr.buildSlice, Sem.run_bind, run_underlying hu, run_szOf hn, Result.andThen_ok]
      rw [if_neg hroom]
      simp only [h0, if_false, Sem.run_bind, hzr, Result.andThen_ok, Sem.run_pure]
      have hsz : zv.cells.size = n := by rw [← hzn, ← hzl]; simp
      have := range_reps zv.cells len
      rw [hsz, hzl] at this
      rw [hsz, this, hf]
      simp only [Sem.run_bind, newRow, run_newObj, Sem.run_pure, Result.andThen_ok]
      rfl
    split at h
    · split at h
      · rename_i z hz
        split at h
        · rename_i hb
          simp only [Bool.and_eq_true, Bool.or_eq_true, Nat.ble_eq, Nat.beq_eq] at hb
          split at h
          · rename_i cs hcs
            have hf := fillL_sound _ _ _ hcs
            by_cases h0 : len * n = 0
            · refine ⟨_, _, ?_, h⟩
              have hroom : ¬ len * n > 2 ^ 24 := by have := hb.1; omega
              simp only [Instr.buildSlice, Sem.run_bind, run_underlying hu, run_szOf hn, Result.andThen_ok]
              rw [if_neg hroom]
              rw [h0] at hz
              obtain rfl : [] = z := by simpa [Nat.beq] using hz
              have hr0 : reps len [] = [] := List.eq_nil_of_length_eq_zero (by simp [reps_length])
              rw [hr0] at hf
              simp only [h0, if_true, Sem.run_pure, Result.andThen_ok, Sem.run_bind]
              have hm : (Array.range 0).map (fun i => (#[] : Array Value)[i % (#[] : Array Value).size]!) = ([] : List Value).toArray := by simp
              rw [hm, hf]
              simp only [Sem.run_bind, newRow, run_newObj, Sem.run_pure, Result.andThen_ok]
              rfl
            · have hz' : zeroL P e = some z := by
                cases hq : Nat.beq (len * n) 0 with
                | true => exact absurd (Nat.eq_of_beq_eq_true hq) h0
                | false => rw [hq] at hz; exact hz
              have hzn : z.length = n := by
                rcases hb.2 with hb | hb
                · exact absurd hb h0
                · exact hb
              exact ⟨_, _, full z cs hz' h0 hb.1 hzn hf, h⟩
          · exact h.elim
        · exact h.elim
      · exact h.elim
    · split at h
      · rename_i z hz
        split at h
        · rename_i hb
          simp only [Bool.and_eq_true, Nat.ble_eq, Nat.beq_eq] at hb
          obtain ⟨r, hr, hk⟩ := fillP_sound _ _ _ h
          rw [repz, zc, hz] at hr
          exact ⟨_, _, full z r hz (by omega) hb.1 hb.2.2 hr, hk⟩
        · exact h.elim
      · exact h.elim
  · exact h.elim
theorem opV_sound {P : Program} {n : Nat} {a : Act} {fr : Fr} {o : Oper} {w : World} {K : Value → World → Prop} {Q : Exit → Act → World → Prop}
    (ha : Rep n a fr) (hd : ∀ i, o.dst = some i → i < n) (h : opV P (ev fr) o w K) : o.wp P a w (Next' n fr o K) Q := by
  unfold opV at h
  split at h
  · obtain ⟨v, hv, hk⟩ := opS_sound h
    exact wp_value ha hd hv hk
  · rename_i hst
    clear hst
    obtain ⟨dst, op, ty, pos, after, guard⟩ := o
    cases op <;> simp only at h <;> first | exact h.elim | skip
    case alloc e =>
      have key : ∀ z, zeroL P e = some z → ∀ {C : Array Value}, C = z.toArray → K (.pointer (some ⟨w.heap.size, 0, none⟩)) (w.alloc (.cells C e)) →
          Oper.wp P ⟨dst, .alloc e, ty, pos, after, guard⟩ a w (Next' n fr ⟨dst, .alloc e, ty, pos, after, guard⟩ K) Q := by
        intro z hz C hC hk
        obtain ⟨zv, hzr, hzl⟩ := run_zeroL hz
        refine wp_value ha hd (w' := w.alloc (.cells C e)) (run_value ?_) hk
        have hcz : zv.cells = C := by rw [hC, ← hzl]
        simp only [Instr.alloc, Sem.run_bind, hzr, Result.andThen_ok, newVar, newRow, run_newObj, Sem.run_pure, hcz]
        rfl
      split at h
      · rename_i z _ hz; exact key z hz rfl h
      · rename_i z _ hz; exact key z hz (by simp [zc, hz]) h
      · exact h.elim
    case box e x =>
      refine wp_value ha hd (run_value ?_) h
      simp only [Instr.box, Sem.run_bind, newVar, newRow, run_newObj, Sem.run_pure, Result.andThen_ok]
      rfl
    case buildSlice t len ps =>
      obtain ⟨x, w', hr, hk⟩ := bSliceV_sound h
      rw [show (List.map (fun x => (x.fst, ev fr x.snd)) ps.toList).toArray = ps.map (fun x => (x.fst, ev fr x.snd)) by apply Array.ext'; simp] at hr
      exact wp_value ha hd (run_value hr) hk
    case store t x0 x =>
      split at h
      · rename_i p hp
        obtain ⟨A, rfl, h⟩ := onP_elim h
        obtain ⟨w', hr, hk⟩ := stV_sound h
        refine wp_skipped ha hd (w' := w') ?_ hk
        simp only [execOp, Instr.storeAt, Sem.run_bind, hp, Instr.sureAddr, Sem.run_pure, Result.andThen_ok, hr]
      · exact h.elim
    case makeSlice t l c =>
      obtain ⟨x, w', hr, hk⟩ := h
      exact wp_value ha hd (run_value hr) hk
    case makeMap t r =>
      obtain ⟨x, w', hr, hk⟩ := h
      exact wp_value ha hd (run_value hr) hk
    case mapUpdate t m k v =>
      obtain ⟨w', hr, hk⟩ := h
      exact wp_skipped ha hd (by simp only [execOp, Sem.run_bind, hr, Result.andThen_ok, Sem.run_pure]) hk
    case lookup t m k ok =>
      obtain ⟨x, w', hr, hk⟩ := h
      exact wp_value ha hd (run_value hr) hk
    case convert s d x =>
      split at h
      · rename_i e b hs hdd hx
        split at h
        · rename_i he
          obtain ⟨y, w', hr, hk⟩ := h
          refine wp_value ha hd (run_value ?_) hk
          simp only [convert, Sem.run_bind, run_underlying hs, run_underlying hdd, hx, run_underlying he, Result.andThen_ok]
          exact hr
        · exact h.elim
      · rename_i e1 e2 a n c hs hdd hx
        split at h
        · rename_i hq
          obtain rfl := Nat.eq_of_beq_eq_true hq
          obtain ⟨y, w', hr, hk⟩ := h
          refine wp_value ha hd (run_value ?_) hk
          rw [hx]
          exact hr
        · exact h.elim
      · exact h.elim
    case call c =>
      obtain ⟨cal, args, ats⟩ := c
      cases cal with
      | invoke r m => exact h.elim
      | builtin b =>
        have hargs : (args.toList.map (ev fr)).toArray = args.map (ev fr) := by apply Array.ext'; simp
        cases b <;> simp only at h <;> first | exact h.elim | skip
        case append =>
          obtain ⟨x, w', hr, hk⟩ := h
          refine wp_value ha hd (w' := w') (v := .slice x.a x.len x.cap) ?_ hk
          rw [hargs, Array.toArray_toList] at hr
          simp only [execOp, resolve, Sem.run_bind, Sem.run_pure, Result.andThen_ok, invoke, builtin, hr]
        case copy =>
          obtain ⟨x, w', hr, hk⟩ := h
          refine wp_value ha hd (w' := w') ?_ hk
          rw [hargs, Array.toArray_toList] at hr
          simp only [execOp, resolve, Sem.run_bind, Sem.run_pure, Result.andThen_ok, invoke, builtin, hr]
        case clear =>
          obtain ⟨v, w', hr, hv, hk⟩ := h
          subst hv
          refine wp_value ha hd (w' := w') (v := .tuple #[]) ?_ hk
          rw [hargs, Array.toArray_toList] at hr
          simp only [execOp, resolve, Sem.run_bind, Sem.run_pure, Result.andThen_ok, invoke, builtin, hr]
        case delete =>
          obtain ⟨v, w', hr, hv, hk⟩ := h
          subst hv
          refine wp_value ha hd (w' := w') (v := .tuple #[]) ?_ hk
          rw [hargs, Array.toArray_toList] at hr
          simp only [execOp, resolve, Sem.run_bind, Sem.run_pure, Result.andThen_ok, invoke, builtin, hr]
      | value f =>
        simp only at h
        unfold callVal at h
        split at h
        · rename_i id first cap hf
          obtain ⟨⟨fn, c, hfn, hb, hn⟩, hc⟩ := h
          unfold Oper.wp
          rw [ha.ev]
          have he : (execOp (ev fr) ⟨dst, .call ⟨.value f, args, ats⟩, ty, pos, after, guard⟩).run P w = .ok (.enter id (first.toList ++ args.toList.map (ev fr) ++ cap.toList).toArray) w := by
            have hargs : (first.toList ++ args.toList.map (ev fr) ++ cap.toList).toArray = (first ++ args.map (ev fr)) ++ cap := by apply Array.ext'; simp
            rw [hargs]
            simp only [execOp, resolve, Sem.run_bind, Sem.run_pure, Result.andThen_ok, hf, Deferred.ofValue, invoke, callFunc, run_program, hfn, hn, hb]
            simp
          rw [he]
          refine Calls.mono hc ?_
          rintro e w' ⟨x, rfl, hk⟩
          exact ⟨_, ha.put hd _, hk⟩
        · exact h.elim
end Go.Vc
