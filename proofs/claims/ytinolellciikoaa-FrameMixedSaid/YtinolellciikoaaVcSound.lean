/- What 'vc' asks of a function's code is enough for a call of it: the proof, by the model's own rules. Conditions: none. -/
import Derived.Test.YtinolellciikoaaVc
import Derived.Laws.Sem
import Derived.Laws.Entries
import Derived.Laws.Cells
import Derived.KernelRfl
namespace Go.Vc
open Go

def isAggD : TypeDesc → Bool | .struct _ | .array _ _ => true | _ => false
theorem ikEq_eq {k k' : IntKind} (h : ikEq k k' = true) : k = k' := by cases k <;> cases k' <;> simp [ikEq] at h ⊢
theorem ikEq_self (k : IntKind) : ikEq k k = true := by cases k <;> rfl
theorem cnd_elim {b : Bool} {x y : Prop} (h : cnd b x y) : (b = true ∧ x) ∨ (b = false ∧ y) := by cases b <;> simp_all [cnd]
theorem onP_elim {p : Option Addr} {k : Addr → Prop} (h : onP p k) : ∃ a, p = some a ∧ k a := by cases p <;> simp_all [onP]
theorem szV_elim {P : Program} {t : TypeId} {k : Nat → Prop} (h : szV P t k) : ∃ n, szOf P t = some n ∧ k n := by
  unfold szV at h; cases hs : szOf P t <;> simp_all
theorem szOf_elim {P : Program} {t : TypeId} {n : Nat} (h : szOf P t = some n) : ∃ i, P.info? t = some i ∧ i.size = n := by
  unfold szOf at h; cases hi : P.info? t <;> simp_all
theorem run_info {P : Program} {t : TypeId} {i : TypeInfo} (h : P.info? t = some i) (w : World) : (typeInfo t).run P w = .ok i w := by simp [typeInfo, h]
theorem run_szOf {P : Program} {t : TypeId} {n : Nat} (h : szOf P t = some n) (w : World) : (sizeOf t).run P w = .ok n w := by
  obtain ⟨i, hi, rfl⟩ := szOf_elim h; simp [sizeOf, run_info hi]
theorem run_zeroL {P : Program} {t : TypeId} {z : List Value} (h : zeroL P t = some z) : ∃ v, (∀ w, (zeroValue t).run P w = .ok v w) ∧ v.cells.toList = z := by
  unfold zeroL at h
  cases hi : P.info? t with
  | none => simp [hi] at h
  | some i =>
    simp only [hi] at h
    cases hz : i.zero with
    | none => simp [hz] at h
    | some v =>
      simp only [hz, Option.some.injEq] at h
      exact ⟨v, fun w => by simp [zeroValue, run_info hi, hz], h⟩

theorem Sh.dec_elim : ∀ (s : Sh) (v : Value) (K : s.T → Prop), s.dec v K → ∃ x, v = s.enc x ∧ K x
  | .int k, v, K, h => by
    cases v <;> simp only [Sh.dec] at h
    rename_i k' n
    cases e : ikEq k' k <;> simp only [e] at h
    exact ⟨n, by rw [ikEq_eq e], h⟩
  | .bool, v, K, h => by cases v <;> simp only [Sh.dec] at h <;> exact ⟨_, rfl, h⟩
  | .str, v, K, h => by cases v <;> simp only [Sh.dec] at h <;> exact ⟨_, rfl, h⟩
  | .slice, v, K, h => by cases v <;> simp only [Sh.dec] at h <;> exact ⟨⟨_, _, _⟩, rfl, h⟩
  | .ptr, v, K, h => by cases v <;> simp only [Sh.dec] at h <;> exact ⟨_, rfl, h⟩
  | .map, v, K, h => by cases v <;> simp only [Sh.dec] at h <;> exact ⟨_, rfl, h⟩
  | .raw, v, K, h => ⟨v, rfl, h⟩
theorem decs_elim : ∀ (l : List Sh) (vs : List Value) (K : Shs l → Prop), decs l vs K → ∃ x, vs = encs l x ∧ K x
  | [], [], K, h => ⟨(), rfl, h⟩
  | [], _ :: _, K, h => by simp [decs] at h
  | [s], [], K, h => by simp [decs] at h
  | [s], [v], K, h => by
    obtain ⟨x, rfl, hk⟩ := Sh.dec_elim s v K h
    exact ⟨x, rfl, hk⟩
  | [s], _ :: _ :: _, K, h => by simp [decs] at h
  | s :: t :: r, [], K, h => by simp [decs] at h
  | s :: t :: r, v :: vs, K, h => by
    obtain ⟨x, rfl, hk⟩ := Sh.dec_elim s v _ h
    obtain ⟨y, rfl, hk'⟩ := decs_elim (t :: r) vs _ hk
    exact ⟨(x, y), rfl, hk'⟩
theorem Ty.dec_elim : ∀ (t : Ty) (v : Value) (K : t.T → Prop), t.dec v K → ∃ x, v = t.enc x ∧ K x
  | .one s, v, K, h => Sh.dec_elim s v K h
  | .agg l, v, K, h => by
    cases v <;> simp only [Ty.dec] at h
    rename_i cs
    obtain ⟨x, hx, hk⟩ := decs_elim l _ K h
    exact ⟨x, by simp only [Ty.enc]; rw [← hx], hk⟩
  | .big n, v, K, h => by
    cases v <;> simp only [Ty.dec] at h
    rename_i cs
    exact ⟨cs, rfl, h.2⟩
theorem decTys_elim : ∀ (l : List Ty) (vs : List Value) (K : Tys l → Prop), decTys l vs K → ∃ x, vs = encTys l x ∧ K x
  | [], [], K, h => ⟨(), rfl, h⟩
  | [], _ :: _, K, h => by simp [decTys] at h
  | [s], [], K, h => by simp [decTys] at h
  | [s], [v], K, h => by
    obtain ⟨x, rfl, hk⟩ := Ty.dec_elim s v K h
    exact ⟨x, rfl, hk⟩
  | [s], _ :: _ :: _, K, h => by simp [decTys] at h
  | s :: t :: r, [], K, h => by simp [decTys] at h
  | s :: t :: r, v :: vs, K, h => by
    obtain ⟨x, rfl, hk⟩ := Ty.dec_elim s v _ h
    obtain ⟨y, rfl, hk'⟩ := decTys_elim (t :: r) vs _ hk
    exact ⟨(x, y), rfl, hk'⟩

/-! ### frames -/
theorem lget_cons (j : Nat) (v : Value) (r : Fr) (i : Nat) : lget ((j, v) :: r) i = if j = i then v else lget r i := by
  simp only [lget]
  split
  · rename_i h; rw [if_pos (Nat.eq_of_beq_eq_true h)]
  · rename_i h; rw [if_neg (Nat.ne_of_beq_eq_false h)]
theorem lget_lset (fr : Fr) (i j : Nat) (v : Value) : lget (lset fr i v) j = if i = j then v else lget fr j := lget_cons i v fr j
/-- A frame of n slots says what an activation holds. -/
structure Rep (n : Nat) (a : Act) (fr : Fr) : Prop where
  defers : a.defers = []
  size : a.tmps.size = n
  get : ∀ i, a.tmps.getD i undef = lget fr i
theorem Rep.ev {n : Nat} {a : Act} {fr : Fr} (h : Rep n a fr) : a.eval = ev fr := by
  funext x
  cases x with
  | tmp t => exact h.get t
  | _ => rfl
theorem Rep.lset {n : Nat} {a : Act} {fr : Fr} (h : Rep n a fr) {d : Nat} (hd : d < n) (v : Value) : Rep n { a with tmps := a.tmps.setIfInBounds d v } (lset fr d v) := by
  refine ⟨h.defers, by simp [h.size], fun i => ?_⟩
  rw [lget_lset, ← h.get i]
  simp only [Array.getD_eq_getD_getElem?, Array.getElem?_setIfInBounds]
  by_cases hi : d = i
  · subst hi; simp [h.size, hd]
  · simp [hi]
theorem Rep.put {n : Nat} {a : Act} {fr : Fr} (h : Rep n a fr) {d : Option Tmp} (hd : ∀ i, d = some i → i < n) (v : Value) : Rep n (a.put d v) (lput fr d v) := by
  cases d with
  | none => exact h
  | some i => exact h.lset (hd i rfl) v
theorem Rep.eqv {n : Nat} {a : Act} {fr fr' : Fr} (h : Rep n a fr) (he : ∀ i, lget fr' i = lget fr i) : Rep n a fr' := ⟨h.defers, h.size, fun i => by rw [he, h.get]⟩
theorem Rep.self {n : Nat} {a : Act} {fr : Fr} (h : Rep n a fr) {d : Nat} {v : Value} (hv : lget fr d = v) : Rep n a (Vc.lset fr d v) :=
  h.eqv fun i => by
    rw [lget_lset]
    split
    · rename_i e; rw [← e, hv]
    · rfl

/-! ### memory -/
theorem underlying_agg {P : Program} {t : TypeId} {b : Bool} {d : TypeDesc} (h : P.underlying t = some d) (hb : isAggD d = b) (w : World) : (isAgg t).run P w = .ok b w := by
  simp only [isAgg, Sem.run_bind, run_underlying h, Result.andThen_ok]
  subst hb
  cases d <;> rfl
theorem run_load_some {P : Program} {w : World} {a : Addr} {v : Value} (h : w.cell? a = some v) : (load a).run P w = .ok v w := by simp [h]
theorem encs_length : ∀ (l : List Sh) (x : Shs l), (encs l x).length = l.length
  | [], _ => rfl
  | [_], _ => rfl
  | s :: t :: r, x => by simp only [encs, List.length_cons]; rw [encs_length (t :: r) x.2]; rfl
theorem tyOf_one {P : Program} {t : TypeId} {s : Sh} {d : TypeDesc} (h : tyOf P t = .one s) (hu : P.underlying t = some d) : isAggD d = false := by
  unfold tyOf at h
  rw [hu] at h
  cases d <;> simp [isAggD] at h ⊢ <;> split at h <;> simp at h
theorem tyOf_agg {P : Program} {t : TypeId} {d : TypeDesc} (h : ∀ s, tyOf P t ≠ .one s) (hu : P.underlying t = some d) : isAggD d = true := by
  unfold tyOf at h
  rw [hu] at h
  cases d <;> simp [isAggD] at h ⊢
theorem ldOk_elim {P : Program} {t : TypeId} (h : ldOk P t = true) : ∃ d n, P.underlying t = some d ∧ szOf P t = some n ∧ (∀ s, tyOf P t = .one s → n = 1) ∧ (∀ l, tyOf P t = .agg l → n = l.length) ∧ (∀ m, tyOf P t = .big m → n = m) := by
  unfold ldOk at h
  split at h
  · rename_i d n s hu hs ht; exact ⟨d, n, hu, hs, fun _ _ => Nat.eq_of_beq_eq_true h, by simp [ht], by simp [ht]⟩
  · rename_i d n l hu hs ht; exact ⟨d, n, hu, hs, by simp [ht], by simp [ht]; exact Nat.eq_of_beq_eq_true h, by simp [ht]⟩
  · rename_i d n l hu hs ht; exact ⟨d, n, hu, hs, by simp [ht], by simp [ht], by simp [ht]; exact Nat.eq_of_beq_eq_true h⟩
  · simp at h
theorem loadVar_sound' {P : Program} {t : TypeId} {w : World} {A : Addr} {T : Ty} (hT : tyOf P t = T) {K : T.T → Prop} (hok : ldOk P t = true) (h : ldV w A T K) :
    ∃ x : T.T, (loadVar t A).run P w = .ok (T.enc x) w ∧ K x := by
  obtain ⟨d, n, hu, hs, hone, hagg, hbig⟩ := ldOk_elim hok
  cases T with
  | one s =>
    obtain ⟨x, hx, hk⟩ := h
    refine ⟨x, ?_, hk⟩
    simp [loadVar, underlying_agg hu (tyOf_one hT hu), hx]
  | agg l =>
    have ha := underlying_agg hu (tyOf_agg (by simp [hT]) hu) w
    obtain ⟨x, hx, hk⟩ := h
    refine ⟨x, ?_, hk⟩
    have hr := run_loadCells_list (P := P) (w := w) A (encs l x) hx
    have hn : n = (encs l x).length := by rw [encs_length, hagg l hT]
    simp only [loadVar, Sem.run_bind, ha, Result.andThen_ok, if_true, run_szOf hs, hn, hr, Sem.run_pure]
  | big m =>
    have ha := underlying_agg hu (tyOf_agg (by simp [hT]) hu) w
    obtain ⟨cs, hsz, hx, hk⟩ := h
    refine ⟨cs, ?_, hk⟩
    have hr := run_loadCells_list (P := P) (w := w) A cs.toList (fun j v hv => by
      have hj : j < m := by
        rcases Nat.lt_or_ge j cs.toList.length with h' | h'
        · simpa [hsz] using h'
        · simp [List.getElem?_eq_none h'] at hv
      rw [hx j hj, ← hv]; simp)
    have hn : n = cs.toList.length := by rw [hbig m hT]; simpa using hsz.symm
    simp only [loadVar, Sem.run_bind, ha, Result.andThen_ok, if_true, run_szOf hs, hn, hr, Sem.run_pure]
theorem loadVar_sound {P : Program} {t : TypeId} {w : World} {A : Addr} {K : (tyOf P t).T → Prop} (hok : ldOk P t = true) (h : ldV w A (tyOf P t) K) :
    ∃ x, (loadVar t A).run P w = .ok ((tyOf P t).enc x) w ∧ K x := loadVar_sound' rfl hok h

theorem part_sound {P : Program} {t : TypeId} {cs : List Value} {off : Nat} {v : Value} (h : partO P t cs off = some v) (w : World) : (part t cs.toArray off).run P w = .ok v w := by
  unfold partO at h
  have key : ∀ d, P.underlying t = some d → isAggD d = true →
      (match szOf P t with | some n => (match Nat.ble (off + n) cs.length with | true => some (Value.agg ((cs.drop off).take n).toArray) | false => none) | none => none) = some v →
      (part t cs.toArray off).run P w = .ok v w := by
    intro d hu hd h
    cases hs : szOf P t with
    | none => simp [hs] at h
    | some n =>
      simp only [hs] at h
      split at h
      · simp only [Option.some.injEq] at h
        rw [← h]
        simp only [part, Sem.run_bind, underlying_agg hu hd, Result.andThen_ok, if_true, run_szOf hs, Sem.run_pure]
        congr 2
        apply Array.ext'
        simp [List.take_drop]
      · simp at h
  have one : ∀ d, P.underlying t = some d → isAggD d = false → cs[off]? = some v → (part t cs.toArray off).run P w = .ok v w := by
    intro d hu hd h
    simp only [part, Sem.run_bind, underlying_agg hu hd, Result.andThen_ok, Bool.false_eq_true, if_false]
    simp [h]
  cases hu : P.underlying t with
  | none => simp [hu] at h
  | some d =>
    rw [hu] at h
    cases d with
    | struct fs => exact key _ hu rfl h
    | array n e => exact key _ hu rfl h
    | _ => exact one _ hu rfl h

theorem optEq_run {P : Program} {t e : TypeId} {d : Nat} {a b : Option Addr} {r : Bool} (hu : P.underlying t = some (.pointer e)) (h : optEq a b = some r) (w : World) :
    (Op.equalIn (d + 1) t (.pointer a) (.pointer b)).run P w = .ok r w := by
  cases b with
  | none => simp only [optEq, Option.some.injEq] at h; cases a <;> simp_all [Op.equalIn, run_underlying hu]
  | some b => cases a <;> simp_all [optEq, Op.equalIn, run_underlying hu]
theorem optEq_slice {P : Program} {t e : TypeId} {d : Nat} {a b : Option Addr} {n c n' c' : Nat} {r : Bool} (hu : P.underlying t = some (.slice e)) (h : optEq a b = some r) (w : World) :
    (Op.equalIn (d + 1) t (.slice a n c) (.slice b n' c')).run P w = .ok r w := by
  cases b with
  | none => simp only [optEq, Option.some.injEq] at h; cases a <;> simp_all [Op.equalIn, run_underlying hu]
  | some b => cases a <;> simp_all [optEq, Op.equalIn, run_underlying hu]
theorem andO_elim {a b : Option Bool} {r : Bool} (h : andO a b = some r) : ∃ x y, a = some x ∧ b = some y ∧ r = (x && y) := by
  cases a <;> cases b <;> simp_all [andO]


/-- The fields of a struct, one by one. -/
theorem eqFields_run {P : Program} {d k : Nat} {w : World} {xs ys : Array Value}
    (ih : ∀ t x y r, eqP P d t x y = some r → (Op.equalIn (d + k) t x y).run P w = .ok r w) :
    ∀ (fs : List Field) (r : Bool),
      fs.foldr (fun f acc => (match (f.name == "_") with
          | true => acc
          | false => (match partO P f.type xs.toList f.offset, partO P f.type ys.toList f.offset with
            | some u, some v => andO (eqP P d f.type u v) acc
            | _, _ => none))) (some true) = some r →
      Sem.run P (forIn fs ((none : Option Bool), ()) fun f _ =>
            if f.name ≠ "_" then do
              let a ← part f.type xs f.offset
              let b ← part f.type ys f.offset
              let c ← Op.equalIn (d + k) f.type a b
              if (!c) = true then pure (ForInStep.done (some false, ())) else pure (ForInStep.yield (none, ()))
            else pure (ForInStep.yield (none, ()))) w = .ok ((if r then none else some false), ()) w
  | [], r, h => by simp at h; simp [← h]
  | f :: fs, r, h => by
    simp only [List.foldr_cons] at h
    rw [List.forIn_cons]
    cases hn : f.name == "_" with
    | true =>
      simp only [hn] at h
      have hn' : f.name = "_" := by simpa using hn
      have := eqFields_run ih fs r h
      simp only [hn', ne_eq, not_true_eq_false, if_false, Sem.run_bind, Sem.run_pure, Result.andThen_ok]
      exact this
    | false =>
      simp only [hn] at h
      have hn' : f.name ≠ "_" := by simpa using hn
      split at h
      · rename_i u v hu hv
        obtain ⟨x, y, hx, hy, rfl⟩ := andO_elim h
        have := eqFields_run ih fs y hy
        have pu := part_sound hu w
        have pv := part_sound hv w
        simp only [Array.toArray_toList] at pu pv
        simp only [ne_eq, hn', not_false_eq_true, if_true, Sem.run_bind, pu, pv, Result.andThen_ok, ih _ _ _ _ hx]
        cases x with
        | true => simpa using this
        | false => simp
      · simp at h

theorem eqArray_run {P : Program} {d k : Nat} {w : World} {e : TypeId} {z : Nat} {xs ys : Array Value}
    (ih : ∀ t x y r, eqP P d t x y = some r → (Op.equalIn (d + k) t x y).run P w = .ok r w) :
    ∀ (is : List Nat) (r : Bool),
      is.foldr (fun i acc => (match partO P e xs.toList (i * z), partO P e ys.toList (i * z) with
            | some u, some v => andO (eqP P d e u v) acc
            | _, _ => none)) (some true) = some r →
      Sem.run P (forIn is ((none : Option Bool), ()) fun i _ => do
              let a ← part e xs (i * z)
              let b ← part e ys (i * z)
              let c ← Op.equalIn (d + k) e a b
              if (!c) = true then pure (ForInStep.done (some false, ())) else pure (ForInStep.yield (none, ()))) w = .ok ((if r then none else some false), ()) w
  | [], r, h => by simp at h; simp [← h]
  | i :: is, r, h => by
    simp only [List.foldr_cons] at h
    rw [List.forIn_cons]
    split at h
    · rename_i u v hu hv
      obtain ⟨x, y, hx, hy, rfl⟩ := andO_elim h
      have := eqArray_run ih is y hy
      have pu := part_sound hu w
      have pv := part_sound hv w
      simp only [Array.toArray_toList] at pu pv
      simp only [Sem.run_bind, pu, pv, Result.andThen_ok, ih _ _ _ _ hx]
      cases x with
      | true => simpa using this
      | false => simp
    · simp at h

theorem eqP_run {P : Program} : ∀ (d : Nat) (t : TypeId) (x y : Value) (r : Bool), eqP P d t x y = some r → ∀ (k : Nat) (w : World), (Op.equalIn (d + k) t x y).run P w = .ok r w := by
  intro d
  induction d with
  | zero => intro t x y r h; simp [eqP] at h
  | succ d ih =>
    intro t x y r h k w
    rw [Nat.add_right_comm]
    unfold eqP at h
    cases hu : P.underlying t with
    | none => simp [hu] at h
    | some D =>
      rw [hu] at h
      cases D with
      | bool => cases x <;> cases y <;> simp at h; simp [Op.equalIn, run_underlying hu, h]
      | int kk =>
        cases x <;> cases y <;> simp at h
        split at h <;> simp at h
        rename_i _ _ _ _ hk
        simp [Op.equalIn, run_underlying hu, h, ikEq_eq hk]
      | string => cases x <;> cases y <;> simp at h; simp [Op.equalIn, run_underlying hu, h]
      | pointer e => cases x <;> cases y <;> simp at h; exact optEq_run hu h w
      | slice e => cases x <;> cases y <;> simp at h; exact optEq_slice hu h w
      | map ke e =>
        cases x <;> cases y <;> simp at h
        rename_i a b
        cases b <;> simp at h
        cases a <;> simp_all [Op.equalIn, run_underlying hu]
      | func ps rs v => cases x <;> cases y <;> simp at h <;> simp [Op.equalIn, run_underlying hu, ← h]
      | struct fs =>
        cases x <;> cases y <;> simp only [reduceCtorEq] at h
        split at h
        · simp at h
        · rename_i xs ys hst
          simp only [Op.equalIn, Sem.run_bind, run_underlying hu, Result.andThen_ok, run_program, hst, Bool.false_eq_true, if_false]
          rw [← Array.forIn_toList, eqFields_run (fun t x y r h => ih t x y r h k w) _ _ h]
          cases r <;> simp
      | array n e =>
        cases x <;> cases y <;> simp only [reduceCtorEq] at h
        split at h
        · rename_i xs ys z hz
          simp only [Op.equalIn, Sem.run_bind, run_underlying hu, Result.andThen_ok, run_szOf hz]
          rw [Std.Legacy.Range.forIn_eq_forIn_range']
          simp only [Std.Legacy.Range.size, Nat.sub_zero, Nat.add_sub_cancel, Nat.div_one, ← List.range_eq_range']
          rw [eqArray_run (fun t x y r h => ih t x y r h k w) _ _ h]
          cases r <;> simp
        · simp at h
      | _ => simp at h

theorem nonneg_elim {oy : Operand} {k : IntKind} {b : Int} {p : Prop} (hy : ∀ v, oy = .const v → Value.int k b = v) (h : nonneg oy b p) : 0 ≤ b ∧ p := by
  unfold nonneg at h
  split at h
  · rename_i n hc
    unfold constInt? at hc
    split at hc
    · rename_i k' m
      have := hy _ rfl
      simp at this
      exact ⟨by rw [this.2]; exact Int.natCast_nonneg m, h⟩
    · simp at hc
  · exact h
theorem nonzero_elim {oy : Operand} {k : IntKind} {b : Int} {p : Prop} (hy : ∀ v, oy = .const v → Value.int k b = v) (h : nonzero oy b p) : b ≠ 0 ∧ p := by
  unfold nonzero at h
  split at h
  · rename_i n hc
    unfold constInt? at hc
    split at hc
    · rename_i k' m
      have := hy _ rfl
      simp at this hc
      refine ⟨?_, h⟩
      rw [this.2, hc]
      intro h0
      have : ((n + 1 : Nat) : Int) = 0 := h0
      omega
    · simp at hc
  · exact h
theorem eqP_float {P : Program} {d : Nat} {t : TypeId} {k k' : FloatKind} {a b : Nat} : eqP P d t (.float k a) (.float k' b) = none := by
  cases d with
  | zero => rfl
  | succ d => unfold eqP; split <;> rfl
theorem eqP_complex {P : Program} {d : Nat} {t : TypeId} {k k' : FloatKind} {a b a' b' : Nat} : eqP P d t (.complex k a a') (.complex k' b b') = none := by
  cases d with
  | zero => rfl
  | succ d => unfold eqP; split <;> rfl
theorem eqP_nilIface {P : Program} {d : Nat} {t : TypeId} : eqP P d t .nilIface .nilIface = none := by
  cases d with
  | zero => rfl
  | succ d => unfold eqP; split <;> rfl
theorem eqGuard_other {op : BinOp} {t : TypeId} {ox oy : Operand} {x y : Value} (h : op ≠ .eql) (h' : op ≠ .neq) : eqGuard op t ox oy x y = pure () := by
  unfold eqGuard; cases op <;> first | exact absurd rfl h | exact absurd rfl h' | rfl
theorem eqV_sound {P : Program} {op : BinOp} {t : TypeId} {ox oy : Operand} {x y : Value} {K : Bool → Prop} (h : eqV P t x y K) :
    ∃ b, eqP P 20 t x y = some b ∧ (∀ w, (eqGuard op t ox oy x y).run P w = .ok () w) ∧ (∀ w, (Op.equal t x y).run P w = .ok b w) ∧ K b := by
  unfold eqV at h
  split at h
  · exact h.elim
  · rename_i hg
    split at h
    · rename_i b hb
      refine ⟨b, hb, ?_, fun w => eqP_run 20 t x y b hb 9980 w, h⟩
      intro w
      by_cases h1 : op ≠ .eql ∧ op ≠ .neq
      · rw [eqGuard_other h1.1 h1.2]; rfl
      · cases x <;> cases y <;> first
          | (rw [eqP_nilIface] at hb; simp at hb; done)
          | (unfold eqGuard; split <;> rfl)
          | (unfold eqGuard; unfold eqGd at hg; simp [hg])
    · exact h.elim
theorem eqGuard_int {P : Program} {op : BinOp} {t : TypeId} {ox oy : Operand} {k k' : IntKind} {a b : Int} (w : World) : (eqGuard op t ox oy (.int k a) (.int k' b)).run P w = .ok () w := by
  unfold eqGuard; split <;> simp
theorem eqGuard_string {P : Program} {op : BinOp} {t : TypeId} {ox oy : Operand} {a b : ByteArray} (w : World) : (eqGuard op t ox oy (.string a) (.string b)).run P w = .ok () w := by
  unfold eqGuard; split <;> simp
theorem binV_sound {P : Program} {op : BinOp} {t : TypeId} {ox oy : Operand} {x y : Value} {K : Value → Prop} (hy : ∀ v, oy = .const v → y = v) (h : binV P op t oy x y K) :
    ∃ v, (∀ w, (do eqGuard op t ox oy x y; binOp op t x y : Sem Value).run P w = .ok v w) ∧ K v := by
  unfold binV at h
  split at h
  · rename_i k a k' b
    simp only [Sem.run_bind, eqGuard_int, Result.andThen_ok]
    split at h
    · obtain ⟨h0, hk⟩ := nonneg_elim hy h
      refine ⟨_, fun w => ?_, hk⟩
      simp [binOp, Op.shift, Int.not_lt.2 h0, Go.Vc.shl]
    · obtain ⟨h0, hk⟩ := nonneg_elim hy h
      refine ⟨_, fun w => ?_, hk⟩
      simp [binOp, Op.shift, Int.not_lt.2 h0, Go.Vc.shr]
    · rename_i hs1 hs2
      split at h
      · exact h.elim
      · rename_i hk
        obtain rfl := ikEq_eq hk
        cases op <;> simp only at h <;> first
          | exact h.elim
          | (exact absurd rfl hs1)
          | (exact absurd rfl hs2)
          | (obtain ⟨h0, hk⟩ := nonzero_elim hy h; refine ⟨_, fun w => ?_, hk⟩; simp [binOp, Op.intDiv, h0]; done)
          | (refine ⟨_, fun w => ?_, h⟩; simp [binOp, Op.intArith, Op.intBits, Op.intCmp, band, bor, bxor, bclr])
  · rename_i a b
    simp only [Sem.run_bind, eqGuard_string, Result.andThen_ok]
    cases op <;> simp only at h <;> first
      | exact h.elim
      | (refine ⟨_, fun w => ?_, h⟩; simp [binOp, Op.stringOp])
  · rename_i hni hns
    cases op <;> simp only at h <;> first
      | exact h.elim
      | skip
    · obtain ⟨b, hb, hg, he, hk⟩ := eqV_sound (op := .eql) (ox := ox) (oy := oy) h
      refine ⟨_, fun w => ?_, hk⟩
      simp only [Sem.run_bind, hg, Result.andThen_ok]
      have : binOp .eql t x y = (do pure (.bool (← Op.equal t x y)) : Sem Value) := by
        cases x <;> cases y <;> first
          | rfl
          | (exact (hni _ _ _ _ rfl rfl).elim)
          | (exact (hns _ _ rfl rfl).elim)
          | (rw [eqP_float] at hb; simp at hb; done)
          | (rw [eqP_complex] at hb; simp at hb; done)
      rw [this]
      simp [he]
    · obtain ⟨b, hb, hg, he, hk⟩ := eqV_sound (op := .neq) (ox := ox) (oy := oy) h
      refine ⟨_, fun w => ?_, hk⟩
      simp only [Sem.run_bind, hg, Result.andThen_ok]
      have : binOp .neq t x y = (do pure (.bool (!(← Op.equal t x y))) : Sem Value) := by
        cases x <;> cases y <;> first
          | rfl
          | (exact (hni _ _ _ _ rfl rfl).elim)
          | (exact (hns _ _ rfl rfl).elim)
          | (rw [eqP_float] at hb; simp at hb; done)
          | (rw [eqP_complex] at hb; simp at hb; done)
      rw [this]
      simp [he]
end Go.Vc
