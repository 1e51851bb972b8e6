/- layout: what Plan, Region, Segment, Capacity, Phys, Logic, LogAt tell, by the program and by the reference. Conditions: those of each contract. -/
import Derived.Test.YtbnnpnillppdhaaHelp
namespace Go.Proofs
open Go Go.Vc

abbrev L9 := Int × Int × Int × Int × Int × Int × Int × Int × Int
@[reducible] def L9.vs (x : L9) : List Value := [.int .i64 x.1, .int .i64 x.2.1, .int .i64 x.2.2.1, .int .i64 x.2.2.2.1, .int .i64 x.2.2.2.2.1, .int .i64 x.2.2.2.2.2.1, .int .i64 x.2.2.2.2.2.2.1, .int .i64 x.2.2.2.2.2.2.2.1, .int .i64 x.2.2.2.2.2.2.2.2]
@[reducible] def L9.v (x : L9) : Value := .agg x.vs.toArray
/-- A block that holds a layout. -/
def LB (w : World) (b : Nat) (x : L9) : Prop := w.heap[b]? = some (.cells x.vs.toArray T.api_Layout (0, 0))
theorem LB.new (w : World) (x : L9) : LB (w.alloc (.cells x.vs.toArray T.api_Layout)) w.heap.size x := blk_new _ _
theorem LB.all {w : World} {b : Nat} {x : L9} (h : LB w b x) : cellsAt w ⟨b, 0, none⟩ x.vs := cellsAt_blk h fun j v hv => by simpa using hv
theorem LB.get {w : World} {b : Nat} {x : L9} (h : LB w b x) (i : Nat) {v : Value} (hv : x.vs[i]? = some v) : w.cell? (Addr.add ⟨b, 0, none⟩ i) = some v := by
  rw [add_mk, cell_blk h, Nat.zero_add]; simpa using hv
theorem LB.upd {M : Nat → Prop} {w w' : World} {b : Nat} {x : L9} (h : LB w b x) (u : Upd M w w') (hm : ¬ M b) : LB w' b x := u.get h hm
theorem LB.ext {w w' : World} {b : Nat} {x : L9} (h : LB w b x) (u : Ext w w') : LB w' b x := h.upd u id
theorem LB.can {w : World} {b : Nat} {x : L9} (h : LB w b x) : canSt w ⟨b, 0, none⟩ 9 := canSt_blk (c := x.vs) h (by simp)
theorem LB.set {w : World} {b : Nat} {x : L9} (h : LB w b x) (y : L9) : LB (setCells w ⟨b, 0, none⟩ 0 y.vs) b y := by
  have := setCells_blk (o := 0) y.vs w 0 x.vs h (by simp)
  simpa [spl, LB] using this
theorem LB.lt {w : World} {b : Nat} {x : L9} (h : LB w b x) : b < w.heap.size := lt_of_blk h

/-! ### Plan -/
structure PL (n q s : Int) : Prop where
  n1 : 256 ≤ n
  n2 : n ≤ 65536
  q1 : 8 * q ≤ n - 13
  q2 : n - 13 < 8 * q + 8
  s1 : 32 * s ≤ n - 13 - 3 * q
  s2 : n - 13 - 3 * q < 32 * s + 32
@[reducible] def lay (n q s : Int) : L9 := (n, 3, 13, q, 13 + q, 13 + 2 * q, q, 13 + 3 * q, s)
@[reducible] def lay0 : L9 := (0, 0, 0, 0, 0, 0, 0, 0, 0)
def planF (n : Int) : L9 × Int := if n < 256 ∨ n > 65536 then (lay0, 1) else (lay n ((n - 13) / 8) ((n - 13 - 3 * ((n - 13) / 8)) / 32), 0)
theorem planF_bad {n : Int} (h : n < 256 ∨ n > 65536) : planF n = (lay0, 1) := if_pos h
theorem planF_ok {n : Int} (h : ¬ (n < 256 ∨ n > 65536)) : ∃ q s, PL n q s ∧ planF n = (lay n q s, 0) :=
  ⟨_, _, ⟨by omega, by omega, by omega, by omega, by omega, by omega⟩, if_neg h⟩
theorem planF_cases (n : Int) : (planF n = (lay0, 1)) ∨ ∃ q s, PL n q s ∧ planF n = (lay n q s, 0) := by
  by_cases h : n < 256 ∨ n > 65536
  · exact .inl (planF_bad h)
  · exact .inr (planF_ok h)
theorem layout_Plan.spec (n : Int) (w : World) :
    CallT [.agg [.int .i64, .int .i64, .int .i64, .int .i64, .int .i64, .int .i64, .int .i64, .int .i64, .int .i64], .one (.int .i64)] Try.prog F.layout_Plan [.int .i64 n] w fun r w' => r = planF n ∧ Ext w w' := by
  refine layout_Plan.vc n w _ ?_
  generalize hw_w1 : w.alloc _ = w1
  have h0 : LB w1 w.heap.size lay0 := by rw [← hw_w1]; exact LB.new w lay0
  have e0 : Ext w w1 := by rw [← hw_w1]; exact ext_alloc _ _
  have es : ∀ y : L9, Ext w (setCells w1 ⟨w.heap.size, 0, none⟩ 0 y.vs) := fun y => e0.setCells (p := ⟨w.heap.size, 0, none⟩) (fun h => by simp at h) 0 y.vs
  refine ⟨fun _ w' => w' = w1 ∧ ¬ (n < 256 ∨ n > 65536), ⟨fun b w' => w' = w1 ∧ (b = true ↔ (n < 256 ∨ n > 65536)), ?_, ?_⟩, ?_⟩
  · exact cnd_dec (fun h => ⟨rfl, by simp [h]⟩) (fun h => ⟨rfl, by simp [h]⟩)
  · rintro b _ _ ⟨rfl, hb⟩
    refine cnd_intro (fun ht => ?_) (fun hf => ⟨rfl, fun h => by rw [hb.2 h] at hf; cases hf⟩)
    refine ⟨h0.can, lay0, (h0.set lay0).all, ?_, es lay0⟩
    rw [planF_bad (hb.1 ht)]
  · rintro _ _ _ ⟨rfl, hn⟩
    have hq : IntKind.i64.wrap ((IntKind.i64.wrap (n - 13)).tdiv 8) = (n - 13) / 8 := by
      rw [i64_id (x := n - 13) (by omega) (by omega), Int.tdiv_eq_ediv_of_nonneg (by omega), i64_id (by omega) (by omega)]
    intro e1
    have he1 : e1 = 3 * ((n - 13) / 8) := by
      show IntKind.i64.wrap (3 * IntKind.i64.wrap ((IntKind.i64.wrap (n - 13)).tdiv 8)) = _
      rw [hq, i64_id (by omega) (by omega)]
    have hs : IntKind.i64.wrap ((IntKind.i64.wrap (n - IntKind.i64.wrap (13 + e1))).tdiv 32) = (n - 13 - 3 * ((n - 13) / 8)) / 32 := by
      rw [he1, i64_id (x := 13 + 3 * ((n - 13) / 8)) (by omega) (by omega), i64_id (x := n - (13 + 3 * ((n - 13) / 8))) (by omega) (by omega), Int.tdiv_eq_ediv_of_nonneg (by omega), i64_id (by omega) (by omega)]
      congr 1; omega
    rw [hs, hq, he1, i64_id (x := 13 + (n - 13) / 8) (by omega) (by omega), i64_id (x := 2 * ((n - 13) / 8)) (by omega) (by omega), i64_id (x := 13 + 2 * ((n - 13) / 8)) (by omega) (by omega), i64_id (x := 13 + 3 * ((n - 13) / 8)) (by omega) (by omega)]
    have hp : planF n = (lay n ((n - 13) / 8) ((n - 13 - 3 * ((n - 13) / 8)) / 32), 0) := if_neg hn
    refine ⟨h0.can, _, (h0.set (lay n ((n - 13) / 8) ((n - 13 - 3 * ((n - 13) / 8)) / 32))).all, ?_, es (lay n ((n - 13) / 8) ((n - 13 - 3 * ((n - 13) / 8)) / 32))⟩
    rw [hp]

/-! ### Region -/
def regP (n q s at_ : Int) : Int :=
  if at_ < 0 ∨ n ≤ at_ then 0 else if at_ < 2 then 1 else if at_ < 3 then 2 else if at_ < 13 then 3 else if at_ < 13 + q then 4 else if at_ < 13 + 2 * q then 5 else if at_ < 13 + 3 * q then 6 else if at_ < 13 + 3 * q + 32 * s then 7 else 0
/-- The regions: kind, from, how many. -/
def regs (q s : Int) : List (Int × Int × Int) := [(1, 0, 2), (2, 2, 1), (3, 3, 10), (4, 13, q), (5, 13 + q, q), (6, 13 + 2 * q, q), (7, 13 + 3 * q, 32 * s)]
def regV (q s : Int) : List Value := (regs q s).flatMap fun r => [.int .i64 r.1, .int .i64 r.2.1, .int .i64 r.2.2]
theorem layout_regions.spec {n q s : Int} (hp : PL n q s) (w : World) :
    CallT [.one .slice] Try.prog F.layout_regions [(lay n q s).v] w fun r w' => Ext w w' ∧ ∃ b, r = ⟨some ⟨b, 0, none⟩, 7, 7⟩ ∧ w.heap.size ≤ b ∧ w'.heap[b]? = some (.cells (regV q s).toArray T.layout_region (0, 0)) := by
  obtain ⟨n1, n2, q1, q2, s1, s2⟩ := hp
  refine layout_regions.vc (lay n q s) w _ ?_
  dsimp only [lay]
  generalize hw_w1 : w.alloc _ = w1
  have h0 : LB w1 w.heap.size (lay n q s) := by rw [← hw_w1]; exact LB.new w (lay n q s)
  have e0 : Ext w w1 := by rw [← hw_w1]; exact ext_alloc _ _
  refine ⟨3, h0.get 1 rfl, 13, h0.get 2 rfl, q, h0.get 3 rfl, by omega, by omega, 13 + q, h0.get 4 rfl, q, h0.get 6 rfl, by omega, by omega, 13 + 2 * q, by rw [add_add]; exact h0.get 5 rfl, q, h0.get 6 rfl, 13 + 3 * q, h0.get 7 rfl, s, h0.get 8 rfl, e0.alloc _, w1.heap.size, rfl, e0.size, ?_⟩
  · rw [blk_new, i64_id (by omega) (by omega), Int.mul_comm s 32]
    rfl
theorem regV_get (q s : Int) {i : Nat} (h : i < 7) (r : Int × Int × Int) (hr : (regs q s)[i]? = some r) : ∀ j v, ([Value.int .i64 r.1, .int .i64 r.2.1, .int .i64 r.2.2] : List Value)[j]? = some v → (regV q s).toArray[i * 3 + j]? = some v := by
  intro j v hv
  have hj : j < 3 := by
    rcases Nat.lt_or_ge j 3 with h | h
    · exact h
    · rw [List.getElem?_eq_none (by simpa using h)] at hv; simp at hv
  match i, h, j, hj with
  | 0, _, 0, _ | 0, _, 1, _ | 0, _, 2, _ | 1, _, 0, _ | 1, _, 1, _ | 1, _, 2, _ | 2, _, 0, _ | 2, _, 1, _ | 2, _, 2, _ | 3, _, 0, _ | 3, _, 1, _ | 3, _, 2, _
  | 4, _, 0, _ | 4, _, 1, _ | 4, _, 2, _ | 5, _, 0, _ | 5, _, 1, _ | 5, _, 2, _ | 6, _, 0, _ | 6, _, 1, _ | 6, _, 2, _ =>
    (have := Option.some.inj hr; subst this; exact hv)
def inR (r : Int × Int × Int) (x : Int) : Prop := r.2.1 ≤ x ∧ x < r.2.1 + r.2.2
theorem regs_mem {q s : Int} {i : Nat} {r : Int × Int × Int} (h : (regs q s)[i]? = some r) :
    (i = 0 ∧ r = (1, 0, 2)) ∨ (i = 1 ∧ r = (2, 2, 1)) ∨ (i = 2 ∧ r = (3, 3, 10)) ∨ (i = 3 ∧ r = (4, 13, q)) ∨ (i = 4 ∧ r = (5, 13 + q, q)) ∨ (i = 5 ∧ r = (6, 13 + 2 * q, q)) ∨ (i = 6 ∧ r = (7, 13 + 3 * q, 32 * s)) := by
  match i with
  | 0 | 1 | 2 | 3 | 4 | 5 | 6 => have := Option.some.inj h; subst this; simp
  | k + 7 => simp [regs] at h
theorem regP_of {n q s x : Int} (hp : PL n q s) {i : Nat} {r : Int × Int × Int} (h : (regs q s)[i]? = some r) (hr : inR r x) : regP n q s x = r.1 := by
  obtain ⟨n1, n2, q1, q2, s1, s2⟩ := hp
  obtain ⟨h1, h2⟩ := hr
  rcases regs_mem h with ⟨_, rfl⟩ | ⟨_, rfl⟩ | ⟨_, rfl⟩ | ⟨_, rfl⟩ | ⟨_, rfl⟩ | ⟨_, rfl⟩ | ⟨_, rfl⟩ <;> simp only at h1 h2 ⊢ <;> unfold regP <;> (repeat' split) <;> omega
theorem regP_none {n q s x : Int} (hp : PL n q s) (h : x < 0 ∨ n ≤ x ∨ ∀ r ∈ regs q s, ¬ inR r x) : regP n q s x = 0 := by
  obtain ⟨n1, n2, q1, q2, s1, s2⟩ := hp
  rcases h with h | h | h
  · unfold regP; rw [if_pos (.inl h)]
  · unfold regP; rw [if_pos (.inr h)]
  · simp only [regs, List.mem_cons, List.not_mem_nil, or_false, forall_eq_or_imp, forall_eq, inR] at h
    unfold regP
    (repeat' split) <;> omega
theorem layout_Region.spec {n q s : Int} (hp : PL n q s) (x : Int) (w : World) :
    CallT [.one (.int .i64)] Try.prog F.layout_Region [(lay n q s).v, .int .i64 x] w fun r w' => r = regP n q s x ∧ Ext w w' := by
  refine layout_Region.vc (lay n q s) x w _ ?_
  dsimp only [lay]
  generalize hw_w1 : w.alloc _ = w1
  have h0 : LB w1 w.heap.size (lay n q s) := by rw [← hw_w1]; exact LB.new w (lay n q s)
  have e0 : Ext w w1 := by rw [← hw_w1]; exact ext_alloc _ _
  refine ⟨_, h0.all, CallT.mono (layout_regions.spec hp w1) ?_⟩
  rintro _ w2 ⟨e2, b, rfl, hbs, hb⟩
  have e02 := e0.tr e2
  refine ⟨fun m i w' => ∃ k : Nat, i = k ∧ m = 7 - k ∧ k ≤ 7 ∧ Ext w2 w' ∧ ∀ j, j < k → ∀ r, (regs q s)[j]? = some r → ¬ inR r x, ⟨_, 0, rfl, rfl, by omega, Upd.refl _ _, fun j hj => by omega⟩, ?_⟩
  rintro m i _ w3 ⟨k, rfl, rfl, hk, e3, hno⟩
  have e03 := e02.tr e3
  have h3 := (h0.ext e2).ext e3
  refine ⟨fun _ w' => k < 7 ∧ w3 = w', ?_, ?_⟩
  · refine cnd_dec (fun hlt => ?_) (fun hge => ?_)
    · have hk7 : k < 7 := by simp at hlt; omega
      refine cnd_dec (fun hx => ?_) (fun hx => ⟨(regP_none hp (.inl (by omega))).symm, e03⟩)
      exact ⟨n, h3.get 0 rfl, cnd_dec (fun hx => ⟨hk7, rfl⟩) (fun hx => ⟨(regP_none hp (.inr (.inl (by omega)))).symm, e03⟩)⟩
    · have hk7 : k = 7 := by simp at hge; omega
      subst hk7
      refine ⟨(regP_none hp (.inr (.inr fun r hr => ?_))).symm, e03⟩
      obtain ⟨j, hj, rfl⟩ := List.getElem_of_mem hr
      exact hno j (by simpa [regs] using hj) _ (List.getElem?_eq_getElem hj)
  · rintro _ _ _ ⟨hk7, rfl⟩
    obtain ⟨r, hr⟩ : ∃ r, (regs q s)[k]? = some r := ⟨_, List.getElem?_eq_getElem (by simpa [regs] using hk7)⟩
    have hb3 := e3.get hb
    refine ⟨by omega, by simp; omega, ?_⟩
    simp only [onP_some, Int.toNat_natCast, add_mk, Nat.zero_add]
    refine ⟨r, cellsAt_blk hb3 (regV_get q s hk7 r hr), ?_⟩
    have hn := blk_new w3 (.cells #[.int .i64 0, .int .i64 0, .int .i64 0] T.layout_region)
    have he := ext_alloc w3 (.cells #[.int .i64 0, .int .i64 0, .int .i64 0] T.layout_region)
    refine ⟨canSt_blk (c := [.int .i64 0, .int .i64 0, .int .i64 0]) hn (by simp), ?_⟩
    have hn2 := setCells_blk (o := 0) [.int .i64 r.1, .int .i64 r.2.1, .int .i64 r.2.2] _ 0 [.int .i64 0, .int .i64 0, .int .i64 0] hn (by simp)
    have he2 := he.setCells (p := ⟨w3.heap.size, 0, none⟩) (fun h => by simp at h) 0 [.int .i64 r.1, .int .i64 r.2.1, .int .i64 r.2.2]
    generalize setCells (w3.alloc (.cells #[.int .i64 0, .int .i64 0, .int .i64 0] T.layout_region)) ⟨w3.heap.size, 0, none⟩ 0 [.int .i64 r.1, .int .i64 r.2.1, .int .i64 r.2.2] = w4 at hn2 he2
    have hw : IntKind.i64.wrap (r.2.1 + r.2.2) = r.2.1 + r.2.2 := by
      obtain ⟨n1, n2, q1, q2, s1, s2⟩ := hp
      rcases regs_mem hr with ⟨_, rfl⟩ | ⟨_, rfl⟩ | ⟨_, rfl⟩ | ⟨_, rfl⟩ | ⟨_, rfl⟩ | ⟨_, rfl⟩ | ⟨_, rfl⟩ <;> simp only <;> rw [i64_id] <;> omega
    have next : ¬ inR r x → ∃ m, m < 7 - k ∧ ∃ k' : Nat, IntKind.i64.wrap ((k : Int) + 1) = k' ∧ m = 7 - k' ∧ k' ≤ 7 ∧ Ext w2 w4 ∧ ∀ j, j < k' → ∀ r, (regs q s)[j]? = some r → ¬ inR r x := fun hx =>
      ⟨_, by omega, k + 1, by rw [i64_id] <;> omega, rfl, by omega, e3.tr he2, fun j hj r' hr' => by
        rcases Nat.lt_succ_iff_lt_or_eq.1 hj with h | rfl
        · exact hno j h r' hr'
        · rw [hr] at hr'; cases hr'; exact hx⟩
    refine ⟨r.2.1, by rw [cell_blk hn2]; rfl, cnd_dec (fun h1 => ?_) (fun h1 => next fun h => by have := h.1; omega)⟩
    refine ⟨r.2.1, by rw [cell_blk hn2]; rfl, r.2.2, by rw [cell_blk hn2]; rfl, ?_⟩
    rw [hw]
    refine cnd_dec (fun h2 => ?_) (fun h2 => next fun h => by have := h.2; omega)
    exact ⟨r.1, by rw [cell_blk hn2]; rfl, (regP_of hp hr ⟨by omega, h2⟩).symm, e03.tr he2⟩
theorem dunnageref05_in.spec {a b c : Int} (h1 : 0 ≤ b) (h2 : b ≤ 1000000) (h3 : 0 ≤ c) (h4 : c ≤ 1000000) (w : World) :
    CallT [.one .bool] Try.prog F.dunnageref05_in [.int .i64 a, .int .i64 b, .int .i64 c] w fun r w' => r = decide (b ≤ a ∧ a < b + c) ∧ w = w' := by
  refine dunnageref05_in.vc a b c w _ ?_
  rw [i64_id (by omega) (by omega)]
  refine cnd_dec (fun h => ⟨by congr 1; simp; omega, rfl⟩) (fun h => ⟨by simp; omega, rfl⟩)
theorem dunnageref05_Region.spec {n q s : Int} (hp : PL n q s) (x : Int) (w : World) :
    CallT [.one (.int .i64)] Try.prog F.dunnageref05_Region [(lay n q s).v, .int .i64 x] w fun r w' => r = regP n q s x ∧ Ext w w' := by
  refine dunnageref05_Region.vc (lay n q s) x w _ ?_
  dsimp only [lay]
  generalize hw_w1 : w.alloc _ = w1
  have h0 : LB w1 w.heap.size (lay n q s) := by rw [← hw_w1]; exact LB.new w (lay n q s)
  have e0 : Ext w w1 := by rw [← hw_w1]; exact ext_alloc _ _
  have hp' := hp
  obtain ⟨n1, n2, q1, q2, s1, s2⟩ := hp'
  have go : ∀ {i : Nat} {r : Int × Int × Int}, (regs q s)[i]? = some r → (decide (r.2.1 ≤ x ∧ x < r.2.1 + r.2.2)) = true → r.1 = regP n q s x := fun hr h => (regP_of hp hr (by simpa [inR] using h)).symm
  refine CallT.mono (dunnageref05_in.spec (by omega) (by omega) (by omega) (by omega) w1) ?_
  rintro _ _ ⟨rfl, rfl⟩
  refine cnd_intro (fun h => ⟨go (i := 0) rfl h, e0⟩) (fun a1 => ?_)
  refine cnd_beq (fun h => ⟨go (i := 1) rfl (by simp; omega), e0⟩) (fun a2 => ?_)
  refine ⟨3, h0.get 1 rfl, CallT.mono (dunnageref05_in.spec (by omega) (by omega) (by omega) (by omega) w1) ?_⟩
  rintro _ _ ⟨rfl, rfl⟩
  refine cnd_intro (fun h => ⟨go (i := 2) rfl h, e0⟩) (fun a3 => ?_)
  refine ⟨13, h0.get 2 rfl, q, h0.get 3 rfl, CallT.mono (dunnageref05_in.spec (by omega) (by omega) (by omega) (by omega) w1) ?_⟩
  rintro _ _ ⟨rfl, rfl⟩
  refine cnd_intro (fun h => ⟨go (i := 3) rfl h, e0⟩) (fun a4 => ?_)
  refine ⟨by omega, by omega, 13 + q, h0.get 4 rfl, q, h0.get 6 rfl, CallT.mono (dunnageref05_in.spec (by omega) (by omega) (by omega) (by omega) w1) ?_⟩
  rintro _ _ ⟨rfl, rfl⟩
  refine cnd_intro (fun h => ⟨go (i := 4) rfl h, e0⟩) (fun a5 => ?_)
  refine ⟨by omega, by omega, 13 + 2 * q, by rw [add_add]; exact h0.get 5 rfl, q, h0.get 6 rfl, CallT.mono (dunnageref05_in.spec (by omega) (by omega) (by omega) (by omega) w1) ?_⟩
  rintro _ _ ⟨rfl, rfl⟩
  refine cnd_intro (fun h => ⟨go (i := 5) rfl h, e0⟩) (fun a6 => ?_)
  refine ⟨13 + 3 * q, h0.get 7 rfl, s, h0.get 8 rfl, ?_⟩
  rw [i64_id (x := s * 32) (by omega) (by omega), Int.mul_comm s 32]
  refine CallT.mono (dunnageref05_in.spec (by omega) (by omega) (by omega) (by omega) w1) ?_
  rintro _ _ ⟨rfl, rfl⟩
  refine cnd_intro (fun h => ⟨go (i := 6) rfl h, e0⟩) (fun a7 => ?_)
  refine ⟨(regP_none hp (.inr (.inr ?_))).symm, e0⟩
  simp only [decide_eq_false_iff_not] at a1 a3 a4 a5 a6 a7
  simp only [regs, List.mem_cons, List.not_mem_nil, or_false, forall_eq_or_imp, forall_eq, inR]
  refine ⟨a1, by omega, a3, a4, a5, a6, a7⟩

/-! ### Segment, Capacity, LogAt -/
def segF (q s k : Int) : Int := if k < 0 ∨ s ≤ k then -1 else 13 + 3 * q + 32 * k
theorem layout_Segment.spec {n q s : Int} (hp : PL n q s) (k : Int) (w : World) :
    CallT [.one (.int .i64)] Try.prog F.layout_Segment [(lay n q s).v, .int .i64 k] w fun r w' => r = segF q s k ∧ Ext w w' := by
  obtain ⟨n1, n2, q1, q2, s1, s2⟩ := hp
  refine layout_Segment.vc (lay n q s) k w _ ?_
  dsimp only [lay]
  generalize hw_w1 : w.alloc _ = w1
  have h0 : LB w1 w.heap.size (lay n q s) := by rw [← hw_w1]; exact LB.new w (lay n q s)
  have e0 : Ext w w1 := by rw [← hw_w1]; exact ext_alloc _ _
  refine cnd_dec (fun h => ⟨by rw [segF, if_pos (.inl h)], e0⟩) (fun h1 => ⟨s, h0.get 8 rfl, cnd_dec (fun h => ⟨by rw [segF, if_pos (.inr h)], e0⟩) (fun h2 => ⟨13 + 3 * q, h0.get 7 rfl, ?_, e0⟩)⟩)
  rw [segF, if_neg (by omega), i64_id (x := k * 32) (by omega) (by omega), i64_id (by omega) (by omega), Int.mul_comm k 32]
theorem dunnageref05_Segment.spec {n q s : Int} (hp : PL n q s) (k : Int) (w : World) :
    CallT [.one (.int .i64)] Try.prog F.dunnageref05_Segment [(lay n q s).v, .int .i64 k] w fun r w' => r = segF q s k ∧ Ext w w' := by
  obtain ⟨n1, n2, q1, q2, s1, s2⟩ := hp
  refine dunnageref05_Segment.vc (lay n q s) k w _ ?_
  dsimp only [lay]
  generalize hw_w1 : w.alloc _ = w1
  have h0 : LB w1 w.heap.size (lay n q s) := by rw [← hw_w1]; exact LB.new w (lay n q s)
  have e0 : Ext w w1 := by rw [← hw_w1]; exact ext_alloc _ _
  refine cnd_dec (fun h => ⟨by rw [segF, if_pos (.inl h)], e0⟩) (fun h1 => ⟨s, h0.get 8 rfl, cnd_dec (fun h => ⟨by rw [segF, if_pos (.inr h)], e0⟩) (fun h2 => ⟨13 + 3 * q, h0.get 7 rfl, ?_, e0⟩)⟩)
  rw [segF, if_neg (by omega), i64_id (x := k * 32) (by omega) (by omega), i64_id (by omega) (by omega), Int.mul_comm k 32]
theorem layout_Capacity.spec {n q s : Int} (hp : PL n q s) (w : World) :
    CallT [.one (.int .i64)] Try.prog F.layout_Capacity [(lay n q s).v] w fun r w' => r = 31 * s ∧ Ext w w' := by
  obtain ⟨n1, n2, q1, q2, s1, s2⟩ := hp
  refine layout_Capacity.vc (lay n q s) w _ ?_
  dsimp only [lay]
  exact ⟨s, (LB.new w (lay n q s)).get 8 rfl, by rw [i64_id (x := s * 31) (by omega) (by omega), Int.mul_comm s 31], ext_alloc _ _⟩
theorem dunnageref05_Capacity.spec {n q s : Int} (hp : PL n q s) (w : World) :
    CallT [.one (.int .i64)] Try.prog F.dunnageref05_Capacity [(lay n q s).v] w fun r w' => r = 31 * s ∧ Ext w w' := by
  obtain ⟨n1, n2, q1, q2, s1, s2⟩ := hp
  refine dunnageref05_Capacity.vc (lay n q s) w _ ?_
  dsimp only [lay]
  exact ⟨s, (LB.new w (lay n q s)).get 8 rfl, by rw [i64_id (x := s * 31) (by omega) (by omega), Int.mul_comm s 31], ext_alloc _ _⟩
def logF (q t : Int) : Int := 13 + t % q
theorem logF_eq {q t : Int} (h1 : 30 ≤ q) (h2 : q ≤ 10000) (h3 : 0 ≤ t) : IntKind.i64.wrap (13 + IntKind.i64.wrap (t.tmod (IntKind.u64.wrap q))) = logF q t := by
  rw [u64_id (x := q) (by omega) (by omega), Int.tmod_eq_emod_of_nonneg h3]
  have a := Int.emod_nonneg t (b := q) (by omega)
  have b := Int.emod_lt_of_pos t (b := q) (by omega)
  rw [i64_id (x := t % q) (by omega) (by omega), i64_id (by omega) (by omega)]
  rfl
theorem layout_LogAt.spec {n q s : Int} (hp : PL n q s) {t : Int} (ht : 0 ≤ t) (w : World) :
    CallT [.one (.int .i64)] Try.prog F.layout_LogAt [(lay n q s).v, .int .u64 t] w fun r w' => r = logF q t ∧ Ext w w' := by
  obtain ⟨n1, n2, q1, q2, s1, s2⟩ := hp
  refine layout_LogAt.vc (lay n q s) t w _ ?_
  dsimp only [lay]
  have h0 := LB.new w (lay n q s)
  refine ⟨q, h0.get 3 rfl, cnd_dec (fun h => absurd h (by omega)) (fun _ => ⟨13, h0.get 2 rfl, q, h0.get 3 rfl, ?_, ?_, (ext_alloc _ _).drew⟩)⟩
  · rw [u64_id (by omega) (by omega)]; omega
  · exact logF_eq (by omega) (by omega) ht
theorem dunnageref05_LogAt.spec {n q s : Int} (hp : PL n q s) {t : Int} (ht : 0 ≤ t) (w : World) :
    CallT [.one (.int .i64)] Try.prog F.dunnageref05_LogAt [(lay n q s).v, .int .u64 t] w fun r w' => r = logF q t ∧ Ext w w' := by
  obtain ⟨n1, n2, q1, q2, s1, s2⟩ := hp
  refine dunnageref05_LogAt.vc (lay n q s) t w _ ?_
  dsimp only [lay]
  have h0 := LB.new w (lay n q s)
  refine ⟨q, h0.get 3 rfl, cnd_dec (fun h => absurd h (by omega)) (fun _ => ⟨13, h0.get 2 rfl, q, h0.get 3 rfl, ?_, ?_, (ext_alloc _ _).drew⟩)⟩
  · rw [u64_id (by omega) (by omega)]; omega
  · exact logF_eq (by omega) (by omega) ht

/-! ### Phys, Logic -/
def physF (q s x : Int) : Int × Bool := if x < 0 ∨ 31 * s ≤ x then (0, false) else (13 + 3 * q + 32 * (x / 31) + 1 + x % 31, true)
theorem layout_Phys.spec {n q s : Int} (hp : PL n q s) (x : Int) (w : World) :
    CallT [.one (.int .i64), .one .bool] Try.prog F.layout_Phys [(lay n q s).v, .int .i64 x] w fun r w' => r = physF q s x ∧ Ext w w' := by
  have hp' := hp
  obtain ⟨n1, n2, q1, q2, s1, s2⟩ := hp'
  refine layout_Phys.vc (lay n q s) x w _ ?_
  dsimp only [lay]
  generalize hw_w1 : w.alloc _ = w1
  have h0 : LB w1 w.heap.size (lay n q s) := by rw [← hw_w1]; exact LB.new w (lay n q s)
  have e0 : Ext w w1 := by rw [← hw_w1]; exact ext_alloc _ _
  refine ⟨fun _ w' => 0 ≤ x ∧ x < 31 * s ∧ Ext w1 w', ?_, ?_⟩
  · refine cnd_dec (fun h => ⟨by rw [physF, if_pos (.inl h)], e0⟩) (fun h1 => ⟨_, h0.all, CallT.mono (layout_Capacity.spec hp w1) ?_⟩)
    rintro _ w2 ⟨rfl, e2⟩
    exact cnd_dec (fun h => ⟨by rw [physF, if_pos (.inr h)], e0.tr e2⟩) (fun h2 => ⟨by omega, by omega, e2⟩)
  · rintro _ _ w2 ⟨hx0, hx1, e2⟩
    refine ⟨_, (h0.ext e2).all, ?_⟩
    have hd : IntKind.i64.wrap (x.tdiv 31) = x / 31 := by rw [Int.tdiv_eq_ediv_of_nonneg hx0, i64_id (by omega) (by omega)]
    rw [hd]
    refine CallT.mono (layout_Segment.spec hp (x / 31) w2) ?_
    rintro _ w3 ⟨rfl, e3⟩
    refine ⟨?_, (e0.tr e2).tr e3⟩
    rw [segF, if_neg (by omega), physF, if_neg (by omega), Int.tmod_eq_emod_of_nonneg hx0, i64_id (x := 13 + 3 * q + 32 * (x / 31) + 1) (by omega) (by omega), i64_id (by omega) (by omega)]
theorem dunnageref05_Phys.spec {n q s : Int} (hp : PL n q s) (x : Int) (w : World) :
    CallT [.one (.int .i64), .one .bool] Try.prog F.dunnageref05_Phys [(lay n q s).v, .int .i64 x] w fun r w' => r = physF q s x ∧ Ext w w' := by
  have hp' := hp
  obtain ⟨n1, n2, q1, q2, s1, s2⟩ := hp'
  refine dunnageref05_Phys.vc (lay n q s) x w _ ?_
  dsimp only [lay]
  generalize hw_w1 : w.alloc _ = w1
  have h0 : LB w1 w.heap.size (lay n q s) := by rw [← hw_w1]; exact LB.new w (lay n q s)
  have e0 : Ext w w1 := by rw [← hw_w1]; exact ext_alloc _ _
  refine ⟨fun _ w' => 0 ≤ x ∧ x < 31 * s ∧ Ext w1 w', ?_, ?_⟩
  · refine cnd_dec (fun h => ⟨by rw [physF, if_pos (.inl h)], e0⟩) (fun h1 => ⟨_, h0.all, CallT.mono (dunnageref05_Capacity.spec hp w1) ?_⟩)
    rintro _ w2 ⟨rfl, e2⟩
    exact cnd_dec (fun h => ⟨by rw [physF, if_pos (.inr h)], e0.tr e2⟩) (fun h2 => ⟨by omega, by omega, e2⟩)
  · rintro _ _ w2 ⟨hx0, hx1, e2⟩
    refine ⟨13 + 3 * q, (h0.ext e2).get 7 rfl, ?_, e0.tr e2⟩
    have hd : IntKind.i64.wrap (x.tdiv 31) = x / 31 := by rw [Int.tdiv_eq_ediv_of_nonneg hx0, i64_id (by omega) (by omega)]
    rw [hd, physF, if_neg (by omega), Int.tmod_eq_emod_of_nonneg hx0, i64_id (x := x / 31 * 32) (by omega) (by omega), i64_id (x := 13 + 3 * q + x / 31 * 32) (by omega) (by omega), i64_id (x := 13 + 3 * q + x / 31 * 32 + 1) (by omega) (by omega), i64_id (by omega) (by omega), Int.mul_comm (x / 31) 32]
def logicF (n q s x : Int) : Int × Bool := if regP n q s x = 7 ∧ (x - (13 + 3 * q)) % 32 ≠ 0 then ((x - (13 + 3 * q)) / 32 * 31 + (x - (13 + 3 * q)) % 32 - 1, true) else (0, false)
theorem regP_seven {n q s x : Int} (hp : PL n q s) : regP n q s x = 7 ↔ 13 + 3 * q ≤ x ∧ x < 13 + 3 * q + 32 * s := by
  obtain ⟨n1, n2, q1, q2, s1, s2⟩ := hp
  unfold regP
  (repeat' split) <;> omega
theorem logicF_in {n q s x : Int} (hp : PL n q s) (h : regP n q s x = 7) : IntKind.i64.wrap (x - (13 + 3 * q)) = x - (13 + 3 * q) ∧ (x - (13 + 3 * q)).tmod 32 = (x - (13 + 3 * q)) % 32 ∧
    IntKind.i64.wrap (IntKind.i64.wrap (IntKind.i64.wrap (IntKind.i64.wrap ((x - (13 + 3 * q)).tdiv 32) * 31) + (x - (13 + 3 * q)) % 32) - 1) = (x - (13 + 3 * q)) / 32 * 31 + (x - (13 + 3 * q)) % 32 - 1 := by
  have h7 := (regP_seven hp).1 h
  obtain ⟨n1, n2, q1, q2, s1, s2⟩ := hp
  have h0 : 0 ≤ x - (13 + 3 * q) := by omega
  generalize hy : x - (13 + 3 * q) = y at *
  refine ⟨by rw [i64_id] <;> omega, Int.tmod_eq_emod_of_nonneg h0, ?_⟩
  rw [Int.tdiv_eq_ediv_of_nonneg h0, i64_id (x := y / 32) (by omega) (by omega), i64_id (x := y / 32 * 31) (by omega) (by omega), i64_id (x := y / 32 * 31 + y % 32) (by omega) (by omega), i64_id (by omega) (by omega)]
theorem layout_Logic.spec {n q s : Int} (hp : PL n q s) (x : Int) (w : World) :
    CallT [.one (.int .i64), .one .bool] Try.prog F.layout_Logic [(lay n q s).v, .int .i64 x] w fun r w' => r = logicF n q s x ∧ Ext w w' := by
  refine layout_Logic.vc (lay n q s) x w _ ?_
  dsimp only [lay]
  generalize hw_w1 : w.alloc _ = w1
  have h0 : LB w1 w.heap.size (lay n q s) := by rw [← hw_w1]; exact LB.new w (lay n q s)
  have e0 : Ext w w1 := by rw [← hw_w1]; exact ext_alloc _ _
  refine ⟨_, h0.all, CallT.mono (layout_Region.spec hp x w1) ?_⟩
  rintro _ w2 ⟨rfl, e2⟩
  have e02 := e0.tr e2
  have h2 := h0.ext e2
  refine cnd_bne (fun h => ⟨by rw [logicF, if_neg (fun k => h k.1)], e02⟩) (fun h => ?_)
  obtain ⟨a, b, c⟩ := logicF_in hp h
  refine ⟨13 + 3 * q, h2.get 7 rfl, 13 + 3 * q, h2.get 7 rfl, ?_⟩
  rw [a, b, c]
  refine cnd_beq (fun k => ⟨by rw [logicF, if_neg (fun l => l.2 k)], e02.drew⟩) (fun k => ⟨by rw [logicF, if_pos ⟨h, k⟩], e02.drew⟩)
theorem dunnageref05_Logic.spec {n q s : Int} (hp : PL n q s) (x : Int) (w : World) :
    CallT [.one (.int .i64), .one .bool] Try.prog F.dunnageref05_Logic [(lay n q s).v, .int .i64 x] w fun r w' => r = logicF n q s x ∧ Ext w w' := by
  refine dunnageref05_Logic.vc (lay n q s) x w _ ?_
  dsimp only [lay]
  generalize hw_w1 : w.alloc _ = w1
  have h0 : LB w1 w.heap.size (lay n q s) := by rw [← hw_w1]; exact LB.new w (lay n q s)
  have e0 : Ext w w1 := by rw [← hw_w1]; exact ext_alloc _ _
  refine ⟨fun _ w' => Ext w1 w' ∧ regP n q s x = 7 ∧ (x - (13 + 3 * q)) % 32 ≠ 0, ?_, ?_⟩
  · refine ⟨_, h0.all, CallT.mono (dunnageref05_Region.spec hp x w1) ?_⟩
    rintro _ w2 ⟨rfl, e2⟩
    refine cnd_bne (fun h => ⟨by rw [logicF, if_neg (fun k => h k.1)], e0.tr e2⟩) (fun h => ?_)
    obtain ⟨a, b, c⟩ := logicF_in hp h
    refine ⟨13 + 3 * q, (h0.ext e2).get 7 rfl, ?_⟩
    rw [a, b]
    exact cnd_beq (fun k => ⟨by rw [logicF, if_neg (fun l => l.2 k)], e0.tr e2⟩) (fun k => ⟨e2, h, k⟩)
  · rintro _ _ w2 ⟨e2, h, k⟩
    obtain ⟨a, b, c⟩ := logicF_in hp h
    refine ⟨13 + 3 * q, (h0.ext e2).get 7 rfl, 13 + 3 * q, (h0.ext e2).get 7 rfl, ?_, e0.tr e2⟩
    rw [a, b, c, logicF, if_pos ⟨h, k⟩]

/-! ### the reference's Plan; awake -/
theorem LB.store {w : World} {b : Nat} {x : L9} (h : LB w b x) (i : Nat) (hi : i < 9) (v : Value) (y : L9) (hy : x.vs.set i v = y.vs) :
    (w.cell? (Addr.add ⟨b, 0, none⟩ i)).isSome = true ∧ w.frozen? (Addr.add ⟨b, 0, none⟩ i) = false ∧ LB (w.setCell (Addr.add ⟨b, 0, none⟩ i) v) b y := by
  rw [add_mk, cell_blk h, frozen_blk h]
  refine ⟨by simp; omega, rfl, ?_⟩
  unfold LB
  rw [blk_set h, List.setIfInBounds_toArray, Nat.zero_add, hy]
theorem dunnageref05_Plan.spec (n : Int) (w : World) :
    CallT [.agg [.int .i64, .int .i64, .int .i64, .int .i64, .int .i64, .int .i64, .int .i64, .int .i64, .int .i64], .one (.int .i64)] Try.prog F.dunnageref05_Plan [.int .i64 n] w fun r w' => r = planF n ∧ Ext w w' := by
  refine dunnageref05_Plan.vc n w _ ?_
  generalize hw_w1 : w.alloc _ = w1
  have h0 : LB w1 w.heap.size lay0 := by rw [← hw_w1]; exact LB.new w lay0
  have e0 : Ext w w1 := by rw [← hw_w1]; exact ext_alloc _ _
  refine ⟨fun _ w' => w1 = w' ∧ ¬ (n < 256 ∨ n > 65536), ⟨fun b w' => w1 = w' ∧ (b = true ↔ (n < 256 ∨ n > 65536)), ?_, ?_⟩, ?_⟩
  · exact cnd_dec (fun h => ⟨rfl, by simp [h]⟩) (fun h => ⟨rfl, by simp [h]⟩)
  · rintro b _ _ ⟨rfl, hb⟩
    refine cnd_intro (fun ht => ?_) (fun hf => ⟨rfl, fun h => by rw [hb.2 h] at hf; cases hf⟩)
    refine ⟨h0.can, lay0, (h0.set lay0).all, ?_, e0.setCells (p := ⟨w.heap.size, 0, none⟩) (fun h => by simp at h) 0 lay0.vs⟩
    rw [planF_bad (hb.1 ht)]
  · rintro _ _ _ ⟨rfl, hn⟩
    have hq : IntKind.i64.wrap ((IntKind.i64.wrap (n - 13)).tdiv 8) = (n - 13) / 8 := by
      rw [i64_id (x := n - 13) (by omega) (by omega), Int.tdiv_eq_ediv_of_nonneg (by omega), i64_id (by omega) (by omega)]
    rw [hq, i64_id (x := 13 + (n - 13) / 8) (by omega) (by omega), i64_id (x := 2 * ((n - 13) / 8)) (by omega) (by omega), i64_id (x := 13 + 2 * ((n - 13) / 8)) (by omega) (by omega), i64_id (x := 3 * ((n - 13) / 8)) (by omega) (by omega), i64_id (x := 13 + 3 * ((n - 13) / 8)) (by omega) (by omega)]
    have hp : planF n = (lay n ((n - 13) / 8) ((n - 13 - 3 * ((n - 13) / 8)) / 32), 0) := if_neg hn
    have hs : IntKind.i64.wrap ((IntKind.i64.wrap (n - (13 + 3 * ((n - 13) / 8)))).tdiv 32) = (n - 13 - 3 * ((n - 13) / 8)) / 32 := by
      rw [i64_id (x := n - (13 + 3 * ((n - 13) / 8))) (by omega) (by omega), Int.tdiv_eq_ediv_of_nonneg (by omega), i64_id (by omega) (by omega)]
      congr 1; omega
    have hq1 : 30 ≤ (n - 13) / 8 := by omega
    generalize (n - 13) / 8 = q at *
    generalize hw_w2 : w1.alloc _ = w2
    have i0 : LB w2 w1.heap.size lay0 := by rw [← hw_w2]; exact LB.new w1 lay0
    have k0 : Ext w1 w2 := by rw [← hw_w2]; exact ext_alloc _ _
    refine ⟨i0.can, ?_⟩
    have i1 := i0.set (n, 3, 13, q, 0, 0, q, 0, 0)
    have k1 := k0.setCells (p := ⟨w1.heap.size, 0, none⟩) (fun h => by simp at h) 0 (L9.vs (n, 3, 13, q, 0, 0, q, 0, 0))
    dsimp only at i1 k1 ⊢
    generalize setCells w2 ⟨w1.heap.size, 0, none⟩ 0 (L9.vs (n, 3, 13, q, 0, 0, q, 0, 0)) = w3 at i1 k1 ⊢
    refine ⟨by omega, by omega, ?_⟩
    obtain ⟨a, b, i2⟩ := i1.store 4 (by omega) (.int .i64 (13 + q)) (n, 3, 13, q, 13 + q, 0, q, 0, 0) rfl
    have k2 := k1.set (p := Addr.add ⟨w1.heap.size, 0, none⟩ 4) (fun h => by simp at h) (.int .i64 (13 + q))
    refine ⟨a, b, ?_⟩
    change LB (w3.setCell (((Addr.mk w1.heap.size 0 none).add 4).add (Int.toNat 0 * 1)) (.int .i64 (13 + q))) _ _ at i2
    change Ext w1 (w3.setCell (((Addr.mk w1.heap.size 0 none).add 4).add (Int.toNat 0 * 1)) (.int .i64 (13 + q))) at k2
    generalize w3.setCell (((Addr.mk w1.heap.size 0 none).add 4).add (Int.toNat 0 * 1)) (.int .i64 (13 + q)) = w4 at i2 k2 ⊢
    refine ⟨by omega, by omega, ?_⟩
    have e5 : ((Addr.mk w1.heap.size 0 none).add 4).add (Int.toNat 1 * 1) = Addr.add ⟨w1.heap.size, 0, none⟩ 5 := by rw [add_add]; rfl
    rw [e5]
    obtain ⟨a, b, i3⟩ := i2.store 5 (by omega) (.int .i64 (13 + 2 * q)) (n, 3, 13, q, 13 + q, 13 + 2 * q, q, 0, 0) rfl
    have k3 := k2.set (p := Addr.add ⟨w1.heap.size, 0, none⟩ 5) (fun h => by simp at h) (.int .i64 (13 + 2 * q))
    refine ⟨a, b, ?_⟩
    generalize w4.setCell (Addr.add ⟨w1.heap.size, 0, none⟩ 5) (.int .i64 (13 + 2 * q)) = w5 at i3 k3 ⊢
    obtain ⟨a, b, i4⟩ := i3.store 7 (by omega) (.int .i64 (13 + 3 * q)) (n, 3, 13, q, 13 + q, 13 + 2 * q, q, 13 + 3 * q, 0) rfl
    have k4 := k3.set (p := Addr.add ⟨w1.heap.size, 0, none⟩ 7) (fun h => by simp at h) (.int .i64 (13 + 3 * q))
    refine ⟨a, b, ?_⟩
    generalize w5.setCell (Addr.add ⟨w1.heap.size, 0, none⟩ 7) (.int .i64 (13 + 3 * q)) = w6 at i4 k4 ⊢
    refine ⟨_, i4.get 7 rfl, ?_⟩
    rw [hs]
    obtain ⟨a, b, i5⟩ := i4.store 8 (by omega) (.int .i64 ((n - 13 - 3 * q) / 32)) (lay n q ((n - 13 - 3 * q) / 32)) rfl
    have k5 := k4.set (p := Addr.add ⟨w1.heap.size, 0, none⟩ 8) (fun h => by simp at h) (.int .i64 ((n - 13 - 3 * q) / 32))
    refine ⟨a, b, ?_⟩
    generalize w6.setCell (Addr.add ⟨w1.heap.size, 0, none⟩ 8) (.int .i64 ((n - 13 - 3 * q) / 32)) = w7 at i5 k5 ⊢
    have h7 := h0.ext k5
    refine ⟨_, i5.all, h7.can, _, (h7.set (lay n q ((n - 13 - 3 * q) / 32))).all, ?_, (e0.tr k5).setCells (p := ⟨w.heap.size, 0, none⟩) (fun h => by simp at h) 0 _⟩
    rw [hp]
theorem dunnagelaw05_awake.spec (w : World) : CallT [.one .bool] Try.prog F.dunnagelaw05_awake [] w fun r w' => r = true ∧ Ext w w' := by
  refine dunnagelaw05_awake.vc w _ ?_
  have hp : PL 256 30 4 := ⟨by omega, by omega, by omega, by omega, by omega, by omega⟩
  have hf : planF 256 = (lay 256 30 4, 0) := by rw [planF, if_neg (by decide)]; rfl
  refine CallT.mono (layout_Plan.spec 256 w) ?_
  rintro _ w1 ⟨rfl, e1⟩
  rw [hf]
  generalize hw_w2 : w1.alloc _ = w2
  have h0 : LB w2 w1.heap.size lay0 := by rw [← hw_w2]; exact LB.new w1 lay0
  have e0 : Ext w1 w2 := by rw [← hw_w2]; exact ext_alloc _ _
  refine ⟨h0.can, ?_⟩
  have h1 := h0.set (lay 256 30 4)
  have e2 := e0.setCells (p := ⟨w1.heap.size, 0, none⟩) (fun h => by simp at h) 0 (lay 256 30 4).vs
  dsimp only at h1 e2 ⊢
  refine cnd_beq (fun _ => ⟨_, h1.get 7 rfl, cnd_beq (fun _ => ⟨_, h1.all, CallT.mono (layout_Capacity.spec hp _) ?_⟩) (fun h => absurd rfl h)⟩) (fun h => absurd rfl h)
  rintro _ w3 ⟨rfl, e3⟩
  exact ⟨rfl, (e1.tr e2).tr e3⟩
end Go.Proofs
