/- The walk of dunnagelaw19.SnapsWalk: it answers true, and turns nothing that was there. Conditions: none. -/
import Derived.Test.YtdldamlephggmaaCond1
import Derived.Test.YtdldamlephggmaaLSnapsTell
namespace Go.Proofs
open Go Go.Vc
/-- Tables that one comes to: right, each number below the next one. -/
theorem right_pin {nx : Int} {l : List Pn} (hr : rightB nx l = true) (h8 : l.length < 8) (hn : nx < 4611686018427387904) : rightB (nx + 1) (l ++ [(nx, freeM l)]) = true := by
  obtain ⟨n1, n2, l8, hok⟩ := rightB_iff.1 hr
  obtain ⟨f1, f2, f3⟩ := free_le h8
  have hids := okL_ids hok (Nat.le_refl _)
  rw [List.take_length] at hids
  refine rightB_iff.2 ⟨by omega, by omega, by simp; omega, ?_⟩
  have key : ∀ k, k ≤ l.length → okL (nx + 1) (l ++ [(nx, freeM l)]) k = true := by
    intro k
    induction k with
    | zero => intro _; rfl
    | succ k ih =>
      intro hk
      have hx : l[k]? = some l[k] := List.getElem?_eq_getElem (by omega)
      have hx2 : (l ++ [(nx, freeM l)])[k]? = some l[k] := by rw [List.getElem?_append_left (by omega)]; exact hx
      rw [okL_succ hx2, ih (by omega), List.take_append_of_le_length (by omega)]
      obtain ⟨g1, g2, g3, g4, g5⟩ := okAt_iff.1 (okL_at hok (by omega) hx)
      rw [okAt_iff.2 ⟨g1, by omega, g3, g4, g5⟩]; rfl
  have hxl : (l ++ [(nx, freeM l)])[l.length]? = some (nx, freeM l) := by simp
  rw [List.length_append, List.length_singleton, okL_succ hxl, key _ (Nat.le_refl _), List.take_left]
  rw [okAt_iff.2 ⟨?_, by simp only; omega, f1, f2, f3⟩]; rfl
  simp only
  rcases Nat.eq_zero_or_pos l.length with h0 | h0
  · rw [List.eq_nil_of_length_eq_zero h0, lastId_nil]; omega
  · have hx : l[l.length - 1]? = some l[l.length - 1] := List.getElem?_eq_getElem (by omega)
    have ht := take_snoc hx
    rw [show l.length - 1 + 1 = l.length by omega, List.take_length] at ht
    have hm : l[l.length - 1] ∈ l := List.getElem_mem _
    have := hids.2 _ hm
    have hla : lastId l = (l[l.length - 1]).1 := by conv => lhs; rw [ht]
                                                    exact lastId_snoc _ _
    rw [hla]; omega
/-- What is let go leaves a right table. -/
theorem okAt_sub {nx : Int} {pre pre' : List Pn} {x : Pn} (h : okAt nx pre x = true) (h1 : lastId pre' ≤ lastId pre) (h2 : ∀ y ∈ pre', y ∈ pre) : okAt nx pre' x = true := by
  obtain ⟨g1, g2, g3, g4, g5⟩ := okAt_iff.1 h
  refine okAt_iff.2 ⟨by omega, g2, g3, g4, ?_⟩
  unfold hasRoot at g5 ⊢
  rw [List.any_eq_false] at g5 ⊢
  exact fun y hy => g5 y (h2 y hy)
theorem okL_snoc {nx : Int} {l : List Pn} {x : Pn} : okL nx (l ++ [x]) (l ++ [x]).length = (okL nx l l.length && okAt nx l x) := by
  have hx : (l ++ [x])[l.length]? = some x := by simp
  have key : ∀ k, k ≤ l.length → okL nx (l ++ [x]) k = okL nx l k := by
    intro k
    induction k with
    | zero => intro _; rfl
    | succ k ih =>
      intro hk
      have hy : l[k]? = some l[k] := List.getElem?_eq_getElem (by omega)
      have hy2 : (l ++ [x])[k]? = some l[k] := by rw [List.getElem?_append_left (by omega)]; exact hy
      rw [okL_succ hy2, okL_succ hy, ih (by omega), List.take_append_of_le_length (by omega)]
  rw [List.length_append, List.length_singleton, okL_succ hx, key _ (Nat.le_refl _), List.take_left]
theorem okL_filter {nx : Int} {l : List Pn} (p : Pn → Bool) : ∀ n, n ≤ l.length → okL nx l n = true → okL nx ((l.take n).filter p) ((l.take n).filter p).length = true ∧ lastId ((l.take n).filter p) ≤ lastId (l.take n)
  | 0, _, _ => by simp [okL, lastId_nil]
  | n + 1, hn, h => by
    have hx : l[n]? = some l[n] := List.getElem?_eq_getElem (by omega)
    have hok := h
    rw [okL_succ hx, Bool.and_eq_true] at h
    obtain ⟨h1, h2⟩ := okL_filter p n (by omega) h.1
    obtain ⟨g1, _⟩ := okAt_iff.1 h.2
    rw [take_snoc hx, List.filter_append]
    by_cases hp : p l[n] = true
    · have : List.filter p [l[n]] = [l[n]] := by simp [hp]
      rw [this, okL_snoc, h1, okAt_sub h.2 h2 (fun y hy => (List.mem_filter.1 hy).1), lastId_snoc, lastId_snoc]
      exact ⟨rfl, Int.le_refl _⟩
    · have : List.filter p [l[n]] = [] := by simp [hp]
      rw [this, List.append_nil, lastId_snoc]
      exact ⟨h1, by omega⟩
theorem right_rel {nx : Int} {l : List Pn} (p : Pn → Bool) (hr : rightB nx l = true) : rightB nx (l.filter p) = true := by
  obtain ⟨n1, n2, l8, hok⟩ := rightB_iff.1 hr
  have := (okL_filter p l.length (Nat.le_refl _) hok).1
  rw [List.take_length] at this
  exact rightB_iff.2 ⟨n1, n2, Nat.le_trans (List.length_filter_le _ _) l8, this⟩
/-- In a right table a number stands once. -/
theorem id_once {nx : Int} {l : List Pn} {x : Pn} {id : Int} : ∀ n, n ≤ l.length → okL nx l n = true → (l.take n).find? (fun x => x.1 == id) = some x → ((l.take n).filter fun x => !(x.1 == id)).length + 1 = n
  | 0, _, _, h => by simp at h
  | n + 1, hn, hok, h => by
    have hx : l[n]? = some l[n] := List.getElem?_eq_getElem (by omega)
    have hok' := hok
    rw [okL_succ hx, Bool.and_eq_true] at hok
    obtain ⟨g1, _⟩ := okAt_iff.1 hok.2
    have hids := (okL_ids hok.1 (by omega)).2
    rw [take_snoc hx] at h ⊢
    rw [List.find?_append] at h
    rw [List.filter_append, List.length_append]
    cases hf : (l.take n).find? (fun x => x.1 == id) with
    | some y =>
      have ih := id_once n (by omega) hok.1 hf
      have hy := List.find?_some hf
      have hm := hids y (List.mem_of_find?_eq_some hf)
      have hyi : y.1 = id := by simpa using hy
      have : List.filter (fun x => !(x.1 == id)) [l[n]] = [l[n]] := by
        have : ¬ (l[n]).1 = id := by omega
        simp [this]
      rw [this]; simp; omega
    | none =>
      rw [hf] at h
      have hno := List.find?_eq_none.1 hf
      have hl : (l.take n).filter (fun x => !(x.1 == id)) = l.take n := List.filter_eq_self.2 fun y hy => by simpa using hno y hy
      have hxi : (l[n]).1 = id := by
        simp only [Option.none_or, List.find?_singleton] at h
        split at h
        · rename_i hh; simpa using hh
        · simp at h
      have : List.filter (fun x => !(x.1 == id)) [l[n]] = [] := by simp [hxi]
      rw [hl, this, List.length_take]; simp; omega
abbrev RdI (w : World) (s : SV) (l : List Int) : Prop := RdS (fun x : Int => [Value.int .i64 x]) 1 w s l
/-- Where the walk stands. -/
structure WK (w w' : World) (nx : Int) (s : SV) (l : List Pn) : Prop where
  r : rightB nx l = true
  b : BK w' w.heap.size T.api_Pins (PV.vs (nx, s))
  o : OwnS encPn 2 T.api_Pin w' (w.heap.size + 1) s l
  e : Ext w w'
theorem WK.ext {w w' w2 : World} {nx : Int} {s : SV} {l : List Pn} (h : WK w w' nx s l) (u : Ext w' w2) : WK w w2 nx s l := ⟨h.r, h.b.ext u, h.o.ext u, h.e.tr u⟩
theorem WK.drew {w w' : World} {nx : Int} {s : SV} {l : List Pn} (h : WK w w' nx s l) : WK w w'.drew nx s l := h.ext (ext_drew _)
/-- Another table takes its place. -/
theorem WK.put {w w' w2 : World} {nx nx' : Int} {s s' : SV} {l l' : List Pn} (h : WK w w' nx s l) (hr : rightB nx' l' = true) (ho : OwnS encPn 2 T.api_Pin w' (w.heap.size + 1) s' l') (hs : setCells w' ⟨w.heap.size, 0, none⟩ 0 (PV.vs (nx', s')) = w2) :
    canSt w' ⟨w.heap.size, 0, none⟩ 2 ∧ WK w w2 nx' s' l' := by
  obtain ⟨c, b, e, z, k⟩ := bk_put h.b h.e (Nat.le_refl _) hs rfl
  refine ⟨c, hr, b, ⟨?_, encPn_len, by decide⟩, e⟩
  rw [← hs]
  refine ho.own.upd ((Upd.refl (fun c => c = w.heap.size) w').setCells (p := ⟨w.heap.size, 0, none⟩) (fun _ => rfl) 0 _) fun c hc hM => ?_
  have := ho.own.blk_ge hc; omega
set_option maxRecDepth 100000 in
theorem dunnagelaw19_SnapsWalk.spec {w : World} {s0 : SV} {sc : List Int} (hsc : RdI w s0 sc) :
    CallT [.one .bool] Try.prog F.dunnagelaw19_SnapsWalk [.slice s0.a s0.len s0.cap] w fun r w' => r = true ∧ Ext w w' := by
  refine dunnagelaw19_SnapsWalk.vc s0 w _ ?_
  have hsl := hsc.len
  dsimp only
  generalize ha : w.alloc _ = w1
  generalize hb : setCells w1 _ 0 _ = w2
  obtain ⟨c2, b2, e2, z2⟩ := bk_mk (T := T.api_Pins) (z := PV.vs (0, ⟨none, 0, 0⟩)) (vs := PV.vs (1, ⟨none, 0, 0⟩)) ha hb rfl
  refine ⟨c2, CallT.mono (dunnagelaw19_awake.spec w2) ?_⟩
  rintro _ w3 ⟨rfl, e3⟩
  have k0 : WK w w3 1 ⟨none, 0, 0⟩ [] := ⟨rfl, b2.ext e3, OwnS.nil encPn_len (by decide) _ _ _, e2.tr e3⟩
  refine cnd_neg rfl ⟨fun _ w' => ∃ nx s l, WK w w' nx s l, ⟨fun n x w' => ∃ (k : Nat) (nx : Int) (s : SV) (l : List Pn), x.2 = k ∧ n = sc.length - k ∧ k ≤ 300 ∧ k ≤ sc.length ∧ x.1 < nx ∧ nx ≤ k + 1 ∧ WK w w' nx s l, ⟨_, 0, 1, _, _, rfl, rfl, by omega, by omega, by simp, by omega, k0⟩, ?_⟩, ?_⟩
  rotate_left
  · rintro _ _ w4 ⟨nx, s, l, k4⟩
    refine ⟨(nx, s), k4.b.all, CallT.mono (snaps_Check.spec k4.o.rd (by have := (rightB_iff.1 k4.r).2.2.1; omega)) ?_⟩
    rintro _ w5 ⟨rfl, e5⟩
    rw [k4.r]
    exact ⟨rfl, k4.e.tr e5⟩
  rintro n ⟨last, i'⟩ _ w4 ⟨i, nx, s, l, h2, rfl, h300, hi, hla, hnx, k4⟩
  dsimp only at h2 hla ⊢
  subst h2
  have hw : IntKind.i64.wrap ((i : Int) + 1) = ((i + 1 : Nat) : Int) := by rw [i64_id] <;> omega
  refine ⟨fun _ w' => w4 = w' ∧ i < sc.length ∧ i < 300, ?_, ?_⟩
  · dsimp only
    refine cnd_dec (fun h => ?_) (fun _ => ⟨nx, s, l, k4⟩)
    refine cnd_intro (fun h' => ?_) (fun _ => ⟨nx, s, l, k4⟩)
    exact ⟨rfl, by omega, by have := of_decide_eq_true h'; omega⟩
  rintro _ _ _ ⟨rfl, hil, hi3⟩
  have hx : sc[i]? = some sc[i] := List.getElem?_eq_getElem hil
  generalize sc[i] = id at hx
  obtain ⟨n1, n2, l8, hok⟩ := rightB_iff.1 k4.r
  have hl62 : l.length < 2 ^ 62 := by omega
  -- the next round
  have again : ∀ (last' : Int) (nx' : Int) (s' : SV) (l' : List Pn) (w' : World), last' < nx' → nx' ≤ i + 2 → WK w w' nx' s' l' →
      ∃ m, m < sc.length - i ∧ ∃ (k : Nat) (nx : Int) (s : SV) (l : List Pn), (last', IntKind.i64.wrap ((i : Int) + 1)).2 = k ∧ m = sc.length - k ∧ k ≤ 300 ∧ k ≤ sc.length ∧ (last', IntKind.i64.wrap ((i : Int) + 1)).1 < nx ∧ nx ≤ k + 1 ∧ WK w w' nx s l :=
    fun last' nx' s' l' w' h1 h2 h3 => ⟨sc.length - (i + 1), by omega, i + 1, nx', s', l', hw, rfl, by omega, by omega, h1, by omega, h3⟩
  refine ⟨by omega, by omega, hsc.get hil fun A hA => ⟨id, by rw [Int.toNat_natCast]; exact ((hsc.ext k4.e).at_ hx hA) 0 _ rfl, cnd_dec (fun hpos => ?_) (fun hneg => ?_)⟩⟩
  · -- one is let go
    have cell : ∀ w', RdI w' s0 sc → w'.cell? (A.add ((i : Int).toNat * 1)) = some (.int .i64 id) := fun w' h => by rw [Int.toNat_natCast]; exact (h.at_ hx hA) 0 _ rfl
    refine ⟨fun w' => WK w w' nx s l ∧ RdI w' s0 sc, ⟨k4.drew, (hsc.ext k4.e).ext (ext_drew _)⟩, (nx, s), fun _ h => h.1.b.all, by omega, by omega, hsc.get hil fun A' hA' => ?_⟩
    obtain rfl : A = A' := Option.some.inj (hA.symm.trans hA')
    refine ⟨id, fun w' h => cell w' h.2, CallT.mono (snaps_Root.spec k4.drew.o.rd hl62 id) ?_⟩
    rintro _ w5 ⟨rfl, e5⟩
    have k5 := k4.drew.ext e5
    refine ⟨fun x w' => ∃ (c : Nat) (s' : SV), x.1 = some ⟨c, 0, none⟩ ∧ BK w' c T.api_Pins (PV.vs ((relF nx l id).1.1, s')) ∧ OwnS encPn 2 T.api_Pin w' (w.heap.size + 1) s' (relF nx l id).1.2 ∧ x.2 = (relF nx l id).2 ∧ WK w w' nx s l,
      ⟨fun w' => WK w w' nx s l ∧ RdI w' s0 sc, ⟨k5.drew, (hsc.ext k5.e).ext (ext_drew _)⟩, (nx, s), fun _ h => h.1.b.all, by omega, by omega, hsc.get hil fun A' hA' => ?_⟩, ?_⟩
    · obtain rfl : A = A' := Option.some.inj (hA.symm.trans hA')
      refine ⟨id, fun w' h => cell w' h.2, ?_, ?_⟩
      · refine CallT.mono (snaps_Release.spec k5.drew.o.rd hl62 id) ?_
        rintro ⟨⟨n6, s6⟩, y6⟩ w6 ⟨h1, h6, h3, e6⟩
        dsimp only at h1 h6 h3 ⊢
        subst h1
        have k6 := k5.drew.ext e6
        generalize ha7 : w6.alloc _ = w7
        generalize ha8 : setCells w7 _ 0 _ = w8
        obtain ⟨c8, b8, e8, z8⟩ := bk_mk (T := T.api_Pins) (z := PV.vs (0, ⟨none, 0, 0⟩)) (vs := PV.vs ((relF nx l id).1.1, s6)) ha7 ha8 rfl
        have e7 : Ext w6 w7 := by rw [← ha7]; exact ext_alloc _ _
        refine ⟨⟨k6.ext e7, (hsc.ext (k6.ext e7).e)⟩, c8, w6.heap.size, s6, rfl, b8, ⟨(h6.ext e8).own.mono ?_, encPn_len, by decide⟩, h3, k6.ext e8⟩
        have := k5.b.lt; show w.heap.size + 1 ≤ w5.heap.size; omega
      · generalize ha7 : w5.drew.alloc _ = w7
        obtain ⟨b7, e7, z7⟩ := bk_new (vs := PV.vs (0, ⟨none, 0, 0⟩)) ha7
        have k7 := k5.drew.ext e7
        refine ⟨⟨k7, hsc.ext k7.e⟩, CallT.mono (snaps_Release.spec k7.o.rd hl62 id) ?_⟩
        rintro ⟨⟨n6, s6⟩, y6⟩ w8 ⟨h1, h6, h3, e8⟩
        dsimp only at h1 h6 h3 ⊢
        subst h1
        have k8 := k7.ext e8
        generalize ha9 : setCells w8 _ 0 _ = w9
        obtain ⟨c9, b9, e9, z9, p9⟩ := bk_put (us := PV.vs ((relF nx l id).1.1, s6)) (b7.ext e8) (e7.tr e8) (Nat.le_refl _) ha9 rfl
        have hlt : w.heap.size < w5.heap.size := k5.b.lt
        have hz5 : w5.drew.heap.size = w5.heap.size := rfl
        refine ⟨c9, w5.heap.size, s6, rfl, b9, ⟨?_, encPn_len, by decide⟩, h3, k5.drew.ext e9⟩
        rw [← ha9]
        refine (h6.own.mono (by omega)).upd ((Upd.refl (fun c => c = w5.heap.size) w8).setCells (p := ⟨w5.drew.heap.size, 0, none⟩) (fun _ => rfl) 0 _) fun c hc hM => ?_
        have := h6.own.blk_ge hc; omega
    · rintro ⟨px, r6, er6⟩ _ w6 ⟨c, s6, hpx, b6, o6, hy6, k6⟩
      dsimp only at hpx hy6 ⊢
      subst hpx
      simp only [onP_some]
      refine ⟨fun _ w' => w6 = w', ?_, ?_⟩
      · rcases root_rel (id := id) k4.r with ⟨hf, hp⟩ | ⟨ht, hp⟩
        · rw [hp] at hy6
          simp only [Prod.mk.injEq] at hy6
          obtain ⟨rfl, rfl⟩ := hy6
          rw [hf]
          exact cnd_neg rfl (cnd_pos rfl (cnd_neg rfl (cnd_neg rfl rfl)))
        · rw [hp] at hy6 b6 o6
          simp only [Prod.mk.injEq] at hy6
          obtain ⟨rfl, rfl⟩ := hy6
          rw [ht]
          have hroot : ∃ x, l.find? (fun x => x.1 == id) = some x ∧ (rootF nx l id).1 = x.2 := by
            unfold rootF at ht ⊢
            rw [if_pos k4.r] at ht ⊢
            cases hq : l.find? fun x => x.1 == id with
            | none => rw [hq] at ht; simp at ht
            | some x => exact ⟨x, rfl, rfl⟩
          obtain ⟨x, hfx, hrx⟩ := hroot
          have hids := (okL_ids hok (Nat.le_refl _)).2
          rw [List.take_length] at hids
          have hxb := hids x (List.mem_of_find?_eq_some hfx)
          have honce := id_once (x := x) (id := id) l.length (Nat.le_refl _) hok (by rw [List.take_length]; exact hfx)
          rw [List.take_length] at honce
          have hl6 := o6.len
          have hls := k6.o.len
          refine cnd_neg rfl (cnd_neg rfl (cnd_pos rfl ?_))
          rw [hrx]
          refine cnd_dec (fun h => absurd h (by omega)) (fun _ => cnd_dec (fun h => absurd h (by omega)) (fun _ => ⟨s6, b6.get 1 rfl, s, k6.b.get 1 rfl, cnd_neg ?_ rfl⟩))
          dsimp only at hl6
          rw [i64_id (by omega) (by omega)]
          simp; omega
      · rintro _ _ _ rfl
        rcases root_rel (id := id) k4.r with ⟨hf, hp⟩ | ⟨ht, hp⟩
        · exact cnd_neg hf (again last nx s l w6 hla (by omega) k6)
        · rw [hp] at b6 o6
          refine cnd_pos ht ⟨(nx, s6), b6.all, ?_⟩
          generalize hs7 : setCells w6 _ 0 _ = w7
          obtain ⟨c7, k7⟩ := k6.put (right_rel _ k4.r) o6 hs7
          exact ⟨c7, again last nx s6 _ w7 hla (by omega) k7⟩
  · -- one more is pinned
    refine ⟨(nx, s), k4.b.all, CallT.mono (snaps_Pin.spec k4.o.rd hl62) ?_⟩
    rintro ⟨⟨n5, s5⟩, x5, er5⟩ w5 ⟨h1, h5, h3, h4, e5⟩
    dsimp only at h1 h5 h3 h4 ⊢
    have k5 := k4.ext e5
    generalize ha6 : w5.alloc _ = w6
    generalize ha7 : w6.alloc _ = w7
    generalize ha8 : setCells w7 _ 0 _ = w8
    generalize ha9 : setCells w8 _ 0 _ = w9
    obtain ⟨cq, cx, bq, bx, e9, z6, z9⟩ := two_mk (y1 := PV.vs (0, ⟨none, 0, 0⟩)) (u1 := PV.vs (n5, s5)) (y2 := encPn (0, 0)) (u2 := encPn x5) ha6 ha7 ha8 ha9 rfl rfl
    have k9 := k5.ext e9
    have hls := k9.o.len
    refine ⟨cq, cx, s, k9.b.get 1 rfl, cnd_beq (fun h8 => ?_) (fun h8 => ?_)⟩
    · have hp : pinF nx l = ((0, []), (0, 0), 3) := by rw [pinF, if_pos k4.r, if_pos (by omega)]
      rw [hp] at h4
      exact cnd_neg (by rw [h4]; rfl) (again last nx s l w9 hla (by omega) k9)
    · have hl8 : l.length < 8 := by omega
      have hp : pinF nx l = ((nx + 1, l ++ [(nx, freeM l)]), (nx, freeM l), 0) := by rw [pinF, if_pos k4.r, if_neg (by omega)]
      rw [hp] at h1 h5 h3 h4
      dsimp only at h1 h5 h3 h4
      subst h1 h3 h4
      obtain ⟨f1, f2, f3⟩ := free_le hl8
      have o9 : OwnS encPn 2 T.api_Pin w9 (w.heap.size + 1) s5 (l ++ [(nx, freeM l)]) := ⟨(h5.ext e9).own.mono (by have := k4.b.lt; omega), encPn_len, by decide⟩
      have hr' := right_pin k4.r hl8 (by omega)
      refine ⟨fun m k w' => ∃ j : Nat, k = (j : Int) ∧ j ≤ l.length ∧ m = l.length - j ∧ Ext w9 w', ⟨_, 0, rfl, by omega, rfl, Upd.refl _ _⟩, ?_⟩
      rintro m _ _ w10 ⟨j, rfl, hj, rfl, e10⟩
      have k10 := k9.ext e10
      refine ⟨s, k10.b.get 1 rfl, cnd_dec (fun hlt => ?_) (fun hge => ?_)⟩
      · have hjl : j < l.length := by omega
        have hy : l[j]? = some l[j] := List.getElem?_eq_getElem hjl
        generalize l[j] = y at hy
        have hwj : IntKind.i64.wrap ((j : Int) + 1) = ((j + 1 : Nat) : Int) := by rw [i64_id] <;> omega
        refine ⟨s, k10.drew.b.get 1 rfl, by omega, by omega, k10.o.rd.get hjl fun B hB => ⟨y.2, k10.drew.o.rd.fld hy hB (k := 1) rfl, freeM l, (bx.ext (e10.drew)).get 1 rfl, cnd_beq (fun h => ?_) (fun _ => ⟨l.length - (j + 1), by omega, j + 1, hwj, by omega, rfl, e10.drew⟩)⟩⟩
        exfalso
        unfold hasRoot at f3
        rw [List.any_eq_false] at f3
        exact f3 y (List.mem_of_getElem? hy) (by simpa using h)
      · refine cnd_neg rfl ⟨nx, (bx.ext e10).get 0 rfl, cnd_dec (fun h => absurd h (by omega)) (fun _ => ⟨(nx + 1, s5), (bq.ext e10).all, CallT.mono (snaps_Check.spec (o9.ext e10).rd (by simp; omega)) ?_⟩)⟩
        rintro _ w11 ⟨rfl, e11⟩
        rw [hr']
        have e911 := e10.tr e11
        have k11 := k9.ext e911
        have h5l := o9.len
        rw [List.length_append, List.length_singleton] at h5l
        refine cnd_neg rfl ⟨s5, (bq.ext e911).get 1 rfl, s, k11.b.get 1 rfl, cnd_neg ?_ ⟨nx, (bx.ext e911.drew).get 0 rfl, (nx + 1, s5), (bq.ext e911.drew).all, ?_⟩⟩
        · rw [i64_id (by omega) (by omega)]; simp; omega
        · generalize hs12 : setCells w11.drew _ 0 _ = w12
          obtain ⟨c12, k12⟩ := k11.drew.put hr' (o9.ext e911.drew) hs12
          exact ⟨c12, again nx (nx + 1) s5 _ w12 (by omega) (by omega) k12⟩
theorem dunnagelaw19_SnapsWalk.row {w : World} {bd : TypeId → Nat → Prop} {bs : Nat → Prop} {a : Option Addr} {len cap : Nat} (h : DS.rel w bd bs (.slice T.int 1 (.int .i64)) [.slice a len cap]) :
    CallT [.one .bool] Try.prog F.dunnagelaw19_SnapsWalk [.slice a len cap] w fun r w' => r = true ∧ Ext w w' := by
  obtain ⟨l, h1, _, _, _⟩ := DS.flat (enc := fun x : Int => [Value.int .i64 x]) (fun _ => True) h (fun _ => rfl) (by decide) (fun es hl hr => by
    obtain ⟨n, rfl, _⟩ := hr
    exact ⟨n, rfl, trivial⟩)
  exact dunnagelaw19_SnapsWalk.spec h1
end Go.Proofs
