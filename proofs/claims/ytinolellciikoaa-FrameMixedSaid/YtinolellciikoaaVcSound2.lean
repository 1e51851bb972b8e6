/- Operations that turn nothing: what 'opS' asks is enough for the model's run of them. Conditions: none. -/
import Derived.Test.YtinolellciikoaaVcSound
namespace Go.Vc
open Go

theorem unV_sound {P : Program} {op : UnOp} {x : Value} {K : Value → Prop} (h : unV op x K) : ∃ v, (∀ w, (Op.unary op x).run P w = .ok v w) ∧ K v := by
  unfold unV at h
  split at h
  · exact ⟨_, fun w => by simp [Op.unary, Op.intArith], h⟩
  · exact ⟨_, fun w => by simp [Op.unary, Op.intBits, bxor], h⟩
  · exact ⟨_, fun w => by simp [Op.unary], h⟩
  · exact h.elim

theorem bytes_forIn {P : Program} {w : World} (f : Value → ByteArray → Sem (ForInStep ByteArray))
    (hf : ∀ (b : UInt8) (s : ByteArray), f (.int .u8 b.toNat) s = pure (ForInStep.yield (s.push (UInt8.ofNat ((b.toNat : Nat) : Int).toNat)))) (bs : List UInt8) : ∀ s : ByteArray,
    Sem.run P (forIn (bs.map fun b => Value.int .u8 b.toNat) s f) w = .ok ⟨s.data ++ bs.toArray⟩ w := by
  induction bs with
  | nil => intro s; simp
  | cons b r ih =>
    intro s
    simp only [List.map_cons, List.forIn_cons, Sem.run_bind, hf]
    simp only [Sem.run_pure, Result.andThen_ok]
    rw [ih]
    congr 1
    simp [ByteArray.push]
theorem cvV_sound {P : Program} {s d : TypeId} {x : Value} {w : World} {K : Value → Prop} (h : cvV P s d x w K) : ∃ v, (convert s d x).run P w = .ok v w ∧ K v := by
  unfold cvV at h
  split at h
  · rename_i ds k k' n hs hd
    exact ⟨_, by cases ds <;> simp [convert, run_underlying hs, run_underlying hd, Conv.intToInt], h⟩
  · rename_i e a n c hs hd
    split at h
    · rename_i he
      obtain ⟨bs, hl, hc, hn, hk⟩ := h
      refine ⟨_, ?_, hk⟩
      simp only [convert, Sem.run_bind, run_underlying hs, run_underlying hd, run_underlying he, Result.andThen_ok]
      cases a with
      | none => rw [hn rfl]; rfl
      | some A =>
        simp only [Conv.bytesToString]
        have hr := run_loadCells_list (P := P) (w := w) A (bs.map fun b => Value.int .u8 b.toNat) (fun j v hv => by
          simp only [List.getElem?_map] at hv
          cases hb : bs[j]? with
          | none => simp [hb] at hv
          | some b =>
            simp only [hb, Option.map_some, Option.some.injEq] at hv
            have hj : j < n := by
              rw [← hl]
              rcases Nat.lt_or_ge j bs.length with h' | h'
              · exact h'
              · simp [List.getElem?_eq_none h'] at hb
            rw [hc A rfl j hj, ← hv]
            simp [List.getD, hb])
        rw [List.length_map, hl] at hr
        simp only [Sem.run_bind, hr, Result.andThen_ok, List.forIn_toArray]
        rw [bytes_forIn (P := P) (w := w) _ (fun _ _ => rfl) bs ByteArray.empty]
        simp
    · exact h.elim
  · exact h.elim

theorem cvV_int {P : Program} {s d : TypeId} {x : Value} {w0 : World} {K : Value → Prop} {ds : TypeDesc} {k : IntKind} (hs : P.underlying s = some ds) (hd : P.underlying d = some (.int k)) (h : cvV P s d x w0 K) :
    ∃ v, (∀ w, (convert s d x).run P w = .ok v w) ∧ K v := by
  unfold cvV at h
  rw [hs, hd] at h
  cases x <;> simp only at h <;> first
    | (refine ⟨_, fun w => ?_, h⟩; cases ds <;> simp [convert, run_underlying hs, run_underlying hd, Conv.intToInt]; done)
    | (cases ds <;> simp at h; done)
theorem bndV_sound {P : Program} {o : Option Value} {d hi : Nat} {K : Nat → Prop} (h : bndV o d hi K) :
    ∃ n, K n ∧ (match o with | none => n = d | some v => ∀ (c : BoundsCode) (w : World), (Instr.sliceBound v hi c).run P w = .ok n w) := by
  cases o with
  | none => exact ⟨d, h, rfl⟩
  | some v =>
    unfold bndV at h
    cases v <;> simp only at h
    rename_i k i
    obtain ⟨h0, h1, hk⟩ := h
    exact ⟨i.toNat, hk, fun c w => by simp [Instr.sliceBound, asIntOf, h0, h1]⟩
theorem bounds_sound {P : Program} {isS : Bool} {lo hi mx : Option Value} {n c : Nat} {K : Nat → Nat → Nat → Prop} (hm : mx.isSome = true → hi.isSome = true)
    (h : bndV mx c c fun m => bndV hi n m fun h => bndV lo 0 h fun l => K l h m) :
    ∃ l h m, (∀ w, (Instr.sliceBounds isS n c lo hi mx).run P w = .ok (l, h, m) w) ∧ K l h m := by
  obtain ⟨m, h, hmr⟩ := bndV_sound (P := P) h
  obtain ⟨hh, h, hhr⟩ := bndV_sound (P := P) h
  obtain ⟨l, h, hlr⟩ := bndV_sound (P := P) h
  refine ⟨l, hh, m, fun w => ?_, h⟩
  unfold Instr.sliceBounds
  cases mx <;> cases hi <;> cases lo <;> simp at hm <;> simp_all
theorem sliceV_sound {P : Program} {t : TypeId} {x : Value} {lo hi mx : Option Value} {K : Value → Prop} (hm : mx.isSome = true → hi.isSome = true) (h : sliceV P t x lo hi mx K) :
    ∃ v, (∀ w, (Instr.sliceAt t x lo hi mx).run P w = .ok v w) ∧ K v := by
  unfold sliceV at h
  split at h
  · rename_i e a n c hu
    obtain ⟨z, hz, h⟩ := szV_elim h
    obtain ⟨l, hh, m, hr, hk⟩ := bounds_sound (P := P) (isS := true) hm h
    refine ⟨_, fun w => ?_, hk⟩
    simp only [Instr.sliceAt, Sem.run_bind, run_underlying hu, Result.andThen_ok, Instr.slice, hr, run_szOf hz, Sem.run_pure, subA]
  · rename_i n e p hu
    obtain ⟨z, hz, h⟩ := szV_elim h
    obtain ⟨a, rfl, h2⟩ := onP_elim h
    obtain ⟨l, hh, m, hr, hk⟩ := bounds_sound (P := P) (isS := false) hm h2
    refine ⟨_, fun w => ?_, hk⟩
    simp only [Instr.sliceAt, Instr.sureAddr, Sem.run_bind, run_underlying hu, Result.andThen_ok, hr, run_szOf hz, Sem.run_pure, subA]
    split <;> rfl
  · rename_i s hu
    cases mx with
    | some v => exact h.elim
    | none =>
      obtain ⟨l, hh, m, hr, hk⟩ := bounds_sound (P := P) (isS := false) (lo := lo) (hi := hi) (mx := none) (n := s.size) (c := s.size) (K := fun l h _ => K (.string (s.extract l h))) (by simp) h
      refine ⟨_, fun w => ?_, hk⟩
      simp [Instr.sliceAt, run_underlying hu, Instr.slice, hr]
  · exact h.elim
theorem idxAddrV_sound {P : Program} {t : TypeId} {x i : Value} {K : Value → Prop} (h : idxAddrV P t x i K) : ∃ v, (∀ w, (Instr.indexAt t x i).run P w = .ok v w) ∧ K v := by
  unfold idxAddrV at h
  split at h
  · rename_i k i
    split at h
    · rename_i e a n c hu
      obtain ⟨z, hz, h0, h1, h⟩ := szV_elim h
      obtain ⟨A, rfl, h'⟩ := onP_elim h
      exact ⟨_, fun w => by simp [Instr.indexAt, asIntOf, run_underlying hu, h0, h1, run_szOf hz], h'⟩
    · rename_i n e p hu
      obtain ⟨z, hz, h⟩ := szV_elim h
      obtain ⟨A, rfl, h0, h1, h'⟩ := onP_elim h
      exact ⟨_, fun w => by simp [Instr.indexAt, asIntOf, run_underlying hu, h0, h1, run_szOf hz, Instr.sureAddr], h'⟩
    · exact h.elim
  · exact h.elim
theorem idxV_sound {P : Program} {t : TypeId} {x i : Value} {K : Value → Prop} (h : idxV P t x i K) : ∃ v, (∀ w, (Instr.index t x i).run P w = .ok v w) ∧ K v := by
  unfold idxV at h
  split at h
  · rename_i k i
    split at h
    · rename_i n e cs hu
      obtain ⟨z, hz, h0, h1, y, hp, h⟩ := szV_elim h
      exact ⟨_, fun w => by simpa [Instr.index, asIntOf, run_underlying hu, h0, h1, run_szOf hz] using part_sound hp w, h⟩
    · rename_i s hu
      obtain ⟨b, h0, hb, h⟩ := h
      exact ⟨_, fun w => by simp [Instr.index, asIntOf, run_underlying hu, h0, hb], h⟩
    · exact h.elim
  · exact h.elim
theorem fieldV_sound {P : Program} {t : TypeId} {x : Value} {i : Nat} {K : Value → Prop} (h : fieldV P t x i K) : ∃ v, (∀ w, (Instr.field t x i).run P w = .ok v w) ∧ K v := by
  unfold fieldV at h
  split at h
  · rename_i fs cs hu
    split at h
    · rename_i f hf
      split at h
      · rename_i v hv
        have hf' : fs[i]? = some f := by simpa using hf
        exact ⟨_, fun w => by simpa [Instr.field, run_underlying hu, hf', asAgg] using part_sound hv w, h⟩
      · exact h.elim
    · exact h.elim
  · exact h.elim
theorem fieldAddrV_sound {P : Program} {t : TypeId} {x : Value} {i : Nat} {K : Value → Prop} (h : fieldAddrV P t x i K) : ∃ v, (∀ w, (Instr.fieldAt t x i).run P w = .ok v w) ∧ K v := by
  unfold fieldAddrV at h
  split at h
  · rename_i fs p hu
    obtain ⟨A, rfl, h'⟩ := onP_elim h
    clear h
    rename _ => h
    split at h
    · rename_i f hf
      split at h
      · rename_i n hn
        have hf' : fs[i]? = some f := by simpa using hf
        exact ⟨_, fun w => by simp [Instr.fieldAt, run_underlying hu, hf', Instr.sureAddr, fieldPlace, run_szOf hn], h⟩
      · exact h.elim
    · exact h.elim
  · exact h.elim
theorem lenV_pure {P : Program} {ts : Array TypeId} {t ty : TypeId} {x : Value} {w0 : World} {K : Value → Prop} (ht : ts[0]? = some t) (hm : ∀ k e, P.underlying t ≠ some (.map k e)) (h : lenV P t x w0 K) :
    ∃ v, (∀ w, (Builtin.len_ ts ty #[x]).run P w = .ok v w) ∧ K v := by
  unfold lenV at h
  split at h
  · rename_i hu; cases x <;> simp only at h <;> first | exact h.elim | exact ⟨_, fun w => by simp [Builtin.len_, ht, run_underlying hu, goInt], h⟩
  · rename_i n e hu; exact ⟨_, fun w => by simp [Builtin.len_, ht, run_underlying hu, goInt], h⟩
  · rename_i e hu
    split at h
    · rename_i n e' hu'; exact ⟨_, fun w => by simp [Builtin.len_, ht, run_underlying hu, run_underlying hu', goInt], h⟩
    · exact h.elim
  · rename_i e hu; cases x <;> simp only at h <;> first | exact h.elim | exact ⟨_, fun w => by simp [Builtin.len_, ht, run_underlying hu, goInt], h⟩
  · rename_i k e hu; exact absurd hu (hm k e)
  · exact h.elim
theorem lenV_sound {P : Program} {ts : Array TypeId} {t ty : TypeId} {x : Value} {w : World} {K : Value → Prop} (ht : ts[0]? = some t) (h : lenV P t x w K) :
    ∃ v, (Builtin.len_ ts ty #[x]).run P w = .ok v w ∧ K v := by
  unfold lenV at h
  split at h
  · rename_i hu; cases x <;> simp only at h <;> first | exact h.elim | exact ⟨_, by simp [Builtin.len_, ht, run_underlying hu, goInt], h⟩
  · rename_i n e hu; exact ⟨_, by simp [Builtin.len_, ht, run_underlying hu, goInt], h⟩
  · rename_i e hu
    split at h
    · rename_i n e' hu'; exact ⟨_, by simp [Builtin.len_, ht, run_underlying hu, run_underlying hu', goInt], h⟩
    · exact h.elim
  · rename_i e hu; cases x <;> simp only at h <;> first | exact h.elim | exact ⟨_, by simp [Builtin.len_, ht, run_underlying hu, goInt], h⟩
  · rename_i k e hu
    cases x <;> simp only at h <;> first | exact h.elim | skip
    rename_i r
    cases r with
    | none => exact ⟨_, by simp [Builtin.len_, ht, run_underlying hu, goInt], h⟩
    | some r =>
      obtain ⟨es, c, hr, hk⟩ := h
      exact ⟨_, by simp [Builtin.len_, ht, run_underlying hu, goInt, getObj, Sem.run, hr], hk⟩
  · exact h.elim
theorem capV_sound {P : Program} {ts : Array TypeId} {t ty : TypeId} {x : Value} {K : Value → Prop} (ht : ts[0]? = some t) (h : capV P t x K) :
    ∃ v, (∀ w, (Builtin.cap_ ts ty #[x]).run P w = .ok v w) ∧ K v := by
  unfold capV at h
  split at h
  · rename_i e hu; cases x <;> simp only at h <;> first | exact h.elim | exact ⟨_, fun w => by simp [Builtin.cap_, ht, run_underlying hu, goInt], h⟩
  · exact h.elim
theorem mnV_go_max {P : Program} {K : Value → Prop} {k : IntKind} : ∀ (l : List Value) (a : Int), mnV.go true K k a l → ∃ v, (∀ w, Sem.run P (l.foldlM Builtin.max2 (.int k a)) w = .ok v w) ∧ K v
  | [], a, h => ⟨_, fun w => by simp, h⟩
  | v :: r, a, h => by
    unfold mnV.go at h
    cases v <;> simp only at h <;> first | exact h.elim | skip
    rename_i k' b
    split at h
    · obtain ⟨v, hv, hk⟩ := mnV_go_max r _ h
      refine ⟨v, fun w => ?_, hk⟩
      simp only [List.foldlM_cons, Sem.run_bind, Builtin.max2, Sem.run_pure, Result.andThen_ok]
      rw [show (if b > a then b else a) = max a b by rw [Int.max_def]; split <;> split <;> omega]
      exact hv w
    · exact h.elim
theorem mnV_go_min {P : Program} {K : Value → Prop} {k : IntKind} : ∀ (l : List Value) (a : Int), mnV.go false K k a l → ∃ v, (∀ w, Sem.run P (l.foldlM Builtin.min2 (.int k a)) w = .ok v w) ∧ K v
  | [], a, h => ⟨_, fun w => by simp, h⟩
  | v :: r, a, h => by
    unfold mnV.go at h
    cases v <;> simp only at h <;> first | exact h.elim | skip
    rename_i k' b
    split at h
    · obtain ⟨v, hv, hk⟩ := mnV_go_min r _ h
      refine ⟨v, fun w => ?_, hk⟩
      simp only [List.foldlM_cons, Sem.run_bind, Builtin.min2, Sem.run_pure, Result.andThen_ok]
      rw [show (if b < a then b else a) = min a b by rw [Int.min_def]; split <;> split <;> omega]
      exact hv w
    · exact h.elim

theorem setL_eq (fr : List Value) (i : Nat) (v : Value) : (setL fr i v) = fr.set i v := by
  induction fr generalizing i with
  | nil => rfl
  | cons x r ih => cases i <;> simp [setL, ih]
theorem spliceL_length (cs : List Value) : ∀ (vs : List Value) (i : Nat), (spliceL cs i vs).length = cs.length := by
  intro vs
  induction vs generalizing cs with
  | nil => intro i; rfl
  | cons v r ih => intro i; simp only [spliceL, ih, setL_eq, List.length_set]
theorem splice_fold (vs : List Value) : ∀ (k : Nat) (off : Nat) (cs : Array Value),
    (vs.zipIdx k).foldl (fun (cs : Array Value) (p : Value × Nat) => cs.setIfInBounds (off + p.2) p.1) cs = (spliceL cs.toList (off + k) vs).toArray := by
  induction vs with
  | nil => intro k off cs; simp [spliceL]
  | cons v r ih =>
    intro k off cs
    simp only [List.zipIdx_cons, List.foldl_cons, spliceL]
    rw [ih, setL_eq, Nat.add_assoc]
    simp
theorem fillL_sound {place : Nat → Option (Nat × Nat)} : ∀ (parts : List (Nat × Value)) (cs r : List Value), fillL place cs parts = some r →
    Instr.fill place cs.toArray parts = some r.toArray
  | [], cs, r, h => by simp [fillL] at h; simp [Instr.fill, h]
  | (i, v) :: rest, cs, r, h => by
    unfold fillL at h
    unfold Instr.fill
    cases hp : place i with
    | none => simp [hp] at h
    | some os =>
      obtain ⟨off, size⟩ := os
      simp only [hp] at h ⊢
      split at h
      · rename_i hb
        simp only [Bool.and_eq_true, Nat.beq_eq, Nat.ble_eq] at hb
        have h1 : v.cells.size = size := by simpa using hb.1
        have h2 : off + size ≤ cs.length := hb.2
        have hc : (v.cells.size != size || decide (off + v.cells.size > cs.toArray.size)) = false := by
          simp [h1]; omega
        rw [if_neg (by simpa using hc)]
        have := fillL_sound rest _ _ h
        rw [← this]
        congr 1
        have hz := splice_fold v.cells.toList 0 off cs.toArray
        simp only [Nat.add_zero] at hz
        rw [← hz]
        rw [← Array.foldl_toList, Array.toList_zipIdx]
      · simp at h
theorem places_sound {P : Program} {w : World} : ∀ (fs : List Field) (ps : List (Nat × Nat)), placesL P fs = some ps →
    Sem.run P (fs.mapM fun f => do pure (f.offset, ← sizeOf f.type)) w = .ok ps w
  | [], ps, h => by simp [placesL] at h; simp [h]
  | f :: r, ps, h => by
    unfold placesL at h
    split at h
    · rename_i n l hn hl
      simp only [Option.some.injEq] at h
      have := places_sound (w := w) r l hl
      simp only [List.mapM_cons, Sem.run_bind, run_szOf hn, Result.andThen_ok, Sem.run_pure, this, ← h]
    · simp at h
theorem splL_set (c : List Value) (o : Nat) (v : Value) (r : List Value) (h : o < c.length) : splL (c.set o v) (o + 1) r = splL c o (v :: r) := by
  have hl : (c.take o).length = o := by simp; omega
  have e : c.set o v = c.take o ++ (v :: c.drop (o + 1)) := by rw [List.set_eq_take_append_cons_drop, if_pos h]
  have e1 : (c.set o v).take (o + 1) = c.take o ++ [v] := by
    rw [e, List.take_append, hl, List.take_of_length_le (by omega), show o + 1 - o = 1 by omega]; rfl
  have e2 : (c.set o v).drop (o + 1 + r.length) = c.drop (o + (r.length + 1)) := by
    rw [e, List.drop_append, hl, List.drop_eq_nil_of_le (by omega), show o + 1 + r.length - o = r.length + 1 by omega]
    simp only [List.drop_succ_cons, List.drop_drop, List.nil_append]
    congr 1; omega
  simp only [splL, e1, e2, List.length_cons, List.append_assoc, List.cons_append, List.nil_append]
theorem spliceL_eq : ∀ (vs : List Value) (cs : List Value) (o : Nat), o + vs.length ≤ cs.length → spliceL cs o vs = splL cs o vs
  | [], cs, o, _ => by simp [spliceL, splL]
  | v :: r, cs, o, h => by
    simp only [List.length_cons] at h
    rw [spliceL, setL_eq, spliceL_eq r _ _ (by simp only [List.length_set]; omega), splL_set _ _ _ _ (by omega)]
theorem fillP_sound {place : Nat → Option (Nat × Nat)} : ∀ (parts : List (Nat × Value)) (cs : List Value) (K : List Value → Prop), fillP place parts cs K →
    ∃ r, Instr.fill place cs.toArray parts = some r.toArray ∧ K r
  | [], cs, K, h => ⟨cs, by simp [Instr.fill], h⟩
  | (i, v) :: rest, cs, K, h => by
    unfold fillP at h
    unfold Instr.fill
    cases hp : place i with
    | none => simp [hp] at h
    | some os =>
      obtain ⟨off, size⟩ := os
      simp only [hp] at h ⊢
      obtain ⟨hb, hle, h⟩ := h
      have h1 : v.cells.size = size := by simpa using hb
      have hc : (v.cells.size != size || decide (off + v.cells.size > cs.toArray.size)) = false := by
        simp [h1]; omega
      rw [if_neg (by simpa using hc)]
      obtain ⟨r, hr, hk⟩ := fillP_sound rest _ _ h
      refine ⟨r, ?_, hk⟩
      rw [← hr, ← spliceL_eq _ _ _ (by rw [hb]; exact hle)]
      congr 1
      have hz := splice_fold v.cells.toList 0 off cs.toArray
      simp only [Nat.add_zero] at hz
      rw [← hz]
      rw [← Array.foldl_toList, Array.toList_zipIdx]
theorem buildV_sound {P : Program} {t : TypeId} {parts : List (Nat × Value)} {K : Value → Prop} (h : buildV P t parts K) : ∃ v, (∀ w, (Instr.build t parts.toArray).run P w = .ok v w) ∧ K v := by
  unfold buildV at h
  split at h
  · rename_i fs z hu hz
    obtain ⟨zv, hzr, hzl⟩ := run_zeroL hz
    split at h
    · rename_i ps hps
      have fin : ∀ cs : List Value, Instr.fill (fun i => ps[i]?) z.toArray parts = some cs.toArray → K (.agg cs.toArray) → ∃ v, (∀ w, (Instr.build t parts.toArray).run P w = .ok v w) ∧ K v := fun cs hf hk => by
        refine ⟨_, fun w => ?_, hk⟩
        have hp := places_sound (P := P) (w := w) _ _ hps
        rw [← hzl] at hf
        simp only [Array.toArray_toList] at hf
        simp only [Instr.build, Sem.run_bind, hzr, Result.andThen_ok, run_underlying hu]
        have hm : Sem.run P (fs.mapM fun f => do pure (f.offset, ← sizeOf f.type)) w = .ok ps.toArray w := by
          rw [Array.mapM_eq_mapM_toList]
          simp only [Sem.run_map, hp, Result.andThen_ok]
        rw [hm]
        simp only [Result.andThen_ok, List.getElem?_toArray, hf, Sem.run_pure]
      split at h
      · split at h
        · rename_i cs hcs
          exact fin cs (fillL_sound _ _ _ hcs) h
        · exact h.elim
      · obtain ⟨r, hr, hk⟩ := fillP_sound _ _ _ h
        rw [zc, hz] at hr
        exact fin r hr hk
    · exact h.elim
  · rename_i n e z hu hz
    obtain ⟨zv, hzr, hzl⟩ := run_zeroL hz
    obtain ⟨m, hm, h⟩ := szV_elim h
    have fin : ∀ cs : List Value, Instr.fill (fun i => some (i * m, m)) z.toArray parts = some cs.toArray → K (.agg cs.toArray) → ∃ v, (∀ w, (Instr.build t parts.toArray).run P w = .ok v w) ∧ K v := fun cs hf hk => by
      refine ⟨_, fun w => ?_, hk⟩
      rw [← hzl] at hf
      simp only [Array.toArray_toList] at hf
      simp only [Instr.build, Sem.run_bind, hzr, Result.andThen_ok, run_underlying hu, run_szOf hm, hf, Sem.run_pure]
    split at h
    · split at h
      · rename_i cs hcs
        exact fin cs (fillL_sound _ _ _ hcs) h
      · exact h.elim
    · obtain ⟨r, hr, hk⟩ := fillP_sound _ _ _ h
      rw [zc, hz] at hr
      exact fin r hr hk
  · exact h.elim
theorem arrAtV_sound {P : Program} {t : TypeId} {x : Value} {K : Value → Prop} (h : arrAtV P t x K) : ∃ v, (∀ w, (Instr.arrayAt t x).run P w = .ok v w) ∧ K v := by
  unfold arrAtV at h
  split at h
  · rename_i n e a len c hu
    obtain ⟨hn, hk⟩ := h
    exact ⟨_, fun w => by simp only [Instr.arrayAt, Sem.run_bind, run_underlying hu, Result.andThen_ok, if_neg (Nat.not_lt.2 hn), Sem.run_pure], hk⟩
  · exact h.elim
theorem opS_run {P : Program} {fr : Fr} {o : Oper} {w : World} {K : Value → Prop} (h : opS P (ev fr) o w K) :
    ∃ v, (pureOp P o = true → ∀ w, (execOp (ev fr) o).run P w = .ok (.value v) w) ∧ (execOp (ev fr) o).run P w = .ok (.value v) w ∧ K v := by
  have all : ∀ {s : Sem Value}, (∃ v, (∀ w, s.run P w = .ok v w) ∧ K v) → ∃ v, (pureOp P o = true → ∀ w, (do pure (Next.value (← s)) : Sem Next).run P w = .ok (.value v) w) ∧ (do pure (Next.value (← s)) : Sem Next).run P w = .ok (.value v) w ∧ K v := by
    rintro s ⟨v, hv, hk⟩
    exact ⟨v, fun _ w => by simp only [Sem.run_bind, hv, Result.andThen_ok, Sem.run_pure], by simp only [Sem.run_bind, hv, Result.andThen_ok, Sem.run_pure], hk⟩
  have wrap : ∀ {s : Sem Value}, pureOp P o = false → (∃ v, s.run P w = .ok v w ∧ K v) → ∃ v, (pureOp P o = true → ∀ w, (do pure (Next.value (← s)) : Sem Next).run P w = .ok (.value v) w) ∧ (do pure (Next.value (← s)) : Sem Next).run P w = .ok (.value v) w ∧ K v := by
    rintro s hp ⟨v, hv, hk⟩
    exact ⟨v, (fun h => by simp [hp] at h), by simp only [Sem.run_bind, hv, Result.andThen_ok, Sem.run_pure], hk⟩
  have plain : ∀ {s : Sem Next} {v : Value}, (∀ w, s.run P w = .ok (.value v) w) → K v → ∃ v, (pureOp P o = true → ∀ w, s.run P w = .ok (.value v) w) ∧ s.run P w = .ok (.value v) w ∧ K v :=
    fun h hk => ⟨_, fun _ => h, h w, hk⟩
  obtain ⟨dst, op, ty, pos, after, guard⟩ := o
  cases op <;> simp only [opS] at h <;> simp only [execOp] <;> first
    | exact h.elim
    | exact plain (fun _ => rfl) h
    | exact all (binV_sound (fun v hv => by rw [hv]; rfl) h)
    | exact all (unV_sound h)
    | exact all (fieldV_sound h)
    | exact all (fieldAddrV_sound h)
    | exact all (idxV_sound h)
    | exact all (idxAddrV_sound h)
    | exact all (arrAtV_sound h)
    | skip
  case convert s d x =>
    cases hp : pureOp P ⟨dst, .convert s d x, ty, pos, after, guard⟩ with
    | false => rw [hp] at wrap; exact wrap rfl (cvV_sound h)
    | true =>
      rw [hp] at all
      simp only [pureOp] at hp
      split at hp
      · rename_i ds k hs hd
        obtain ⟨v, hv, hk⟩ := cvV_int hs hd h
        exact ⟨v, fun _ w => by simp only [Sem.run_bind, hv, Result.andThen_ok, Sem.run_pure], by simp only [Sem.run_bind, hv, Result.andThen_ok, Sem.run_pure], hk⟩
      · simp at hp
  case pick c a b =>
    split at h
    · rename_i t ht
      rcases cnd_elim h with ⟨rfl, h⟩ | ⟨rfl, h⟩
      · exact plain (fun _ => by simp [ht, asBool]) h
      · exact plain (fun _ => by simp [ht, asBool]) h
    · exact h.elim
  case build t ps =>
    refine all ?_
    have := buildV_sound h
    rwa [show (List.map (fun x => (x.fst, ev fr x.snd)) ps.toList).toArray = ps.map (fun x => (x.fst, ev fr x.snd)) by apply Array.ext'; simp] at this
  case load t a =>
    split at h
    · rename_i hok
      split at h
      · rename_i p hp
        obtain ⟨A, rfl, h⟩ := onP_elim h
        obtain ⟨x, hx, hk⟩ := loadVar_sound hok h
        refine wrap rfl ⟨_, ?_, hk⟩
        simp only [Instr.loadAt, Sem.run_bind, hp, Instr.sureAddr, Sem.run_pure, Result.andThen_ok, hx]
      · exact h.elim
    · exact h.elim
  case nilCheck x =>
    unfold nilV at h
    split at h
    · rename_i p hp
      obtain ⟨a, rfl, h⟩ := onP_elim h
      exact plain (fun _ => by simp [hp]) h
    · rename_i f l c hp
      exact plain (fun _ => by simp [hp]) h
    · exact h.elim
  case makeFunc fn f c =>
    refine all ⟨_, fun w => ?_, h⟩
    simp only [Instr.makeFunc, Sem.run_pure]
    congr 2 <;> (apply Array.ext'; simp)
  case slice t x l hh m =>
    cases m <;> cases hh <;> simp only at h <;> first
      | exact h.elim
      | exact all (sliceV_sound (by simp) h)
  case extract t i =>
    split at h
    · rename_i vs ht
      split at h
      · rename_i v hv
        have hv' : vs[i]? = some v := by simpa using hv
        exact all ⟨_, fun w => by simp [Instr.extract, ht, hv'], h⟩
      · exact h.elim
    · exact h.elim
  case call c =>
    obtain ⟨cal, args, ats⟩ := c
    cases cal with
    | value f => exact h.elim
    | invoke r m => exact h.elim
    | builtin b =>
      cases b <;> simp only at h <;> first | exact h.elim | skip
      case max =>
        unfold mnV at h
        split at h
        · rename_i k a rest hl
          have hl' : (Array.map (ev fr) args).toList = .int k a :: rest := by simpa using hl
          obtain ⟨v, hv, hk⟩ := mnV_go_max (P := P) rest a h
          exact plain (fun w => by simp only [Sem.run_bind, Sem.run_pure, Builtin.max_, hl', hv, Result.andThen_ok, resolve, invoke, builtin]) hk
        · exact h.elim
      case min =>
        unfold mnV at h
        split at h
        · rename_i k a rest hl
          have hl' : (Array.map (ev fr) args).toList = .int k a :: rest := by simpa using hl
          obtain ⟨v, hv, hk⟩ := mnV_go_min (P := P) rest a h
          exact plain (fun w => by simp only [Sem.run_bind, Sem.run_pure, Builtin.min_, hl', hv, Result.andThen_ok, resolve, invoke, builtin]) hk
        · exact h.elim
      case len =>
        split at h
        · rename_i t x ht hx
          have hargs : args = #[x] := by apply Array.ext'; simpa using hx
          have hts : ats = #[t] := by apply Array.ext'; simpa using ht
          subst hargs hts
          by_cases hm : ∃ k e, P.underlying t = some (.map k e)
          · obtain ⟨v, hv, hk⟩ := lenV_sound (P := P) (ts := #[t]) (ty := ty) rfl h
            obtain ⟨k, e, hm⟩ := hm
            refine ⟨v, fun hp => by simp [pureOp, hm] at hp, ?_, hk⟩
            simp only [resolve, Sem.run_bind, Sem.run_pure, Result.andThen_ok, invoke, builtin]
            simp [hv]
          · obtain ⟨v, hv, hk⟩ := lenV_pure (P := P) (ts := #[t]) (ty := ty) rfl (fun k e h => hm ⟨k, e, h⟩) h
            refine plain (fun w => ?_) hk
            simp only [resolve, Sem.run_bind, Sem.run_pure, Result.andThen_ok, invoke, builtin]
            simp [hv]
        · exact h.elim
      case cap =>
        split at h
        · rename_i t x ht hx
          have hargs : args = #[x] := by apply Array.ext'; simpa using hx
          have hts : ats = #[t] := by apply Array.ext'; simpa using ht
          subst hargs hts
          obtain ⟨v, hv, hk⟩ := capV_sound (P := P) (ts := #[t]) (ty := ty) rfl h
          refine plain (fun w => ?_) hk
          simp only [resolve, Sem.run_bind, Sem.run_pure, Result.andThen_ok, invoke, builtin]
          simp [hv]
        · exact h.elim
theorem opS_sound {P : Program} {fr : Fr} {o : Oper} {w : World} {K : Value → Prop} (h : opS P (ev fr) o w K) : ∃ v, (execOp (ev fr) o).run P w = .ok (.value v) w ∧ K v := by
  obtain ⟨v, _, hv, hk⟩ := opS_run h
  exact ⟨v, hv, hk⟩
end Go.Vc
