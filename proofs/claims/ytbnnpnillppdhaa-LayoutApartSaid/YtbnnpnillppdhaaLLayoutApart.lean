/- The walk of dunnagelaw05.LayoutApart: it answers true, and turns nothing that was there. Conditions: none. -/
import Derived.Test.YtbnnpnillppdhaaCond1
import Derived.Test.YtbnnpnillppdhaaLLayout
namespace Go.Proofs
open Go Go.Vc

/-- How many of the places below i are from a on and below b. -/
def cl (a b i : Int) : Int := if i ≤ a then 0 else if i ≤ b then i - a else b - a
@[reducible] def cntL (n q s i : Int) : List Int := [cl (13 + 3 * q + 32 * s) n i, cl 0 2 i, cl 2 3 i, cl 3 13 i, cl 13 (13 + q) i, cl (13 + q) (13 + 2 * q) i, cl (13 + 2 * q) (13 + 3 * q) i, cl (13 + 3 * q) (13 + 3 * q + 32 * s) i]
theorem cl_in {a b i : Int} (h1 : a ≤ i) (h2 : i < b) : cl a b (i + 1) = cl a b i + 1 := by
  unfold cl; (repeat' split) <;> omega
theorem cl_out {a b i : Int} (h : a ≤ b) (h1 : i < a ∨ b ≤ i) : cl a b (i + 1) = cl a b i := by
  unfold cl; (repeat' split) <;> omega
theorem cl_range {a b i : Int} (h : a ≤ b) : 0 ≤ cl a b i ∧ cl a b i ≤ b - a := by
  unfold cl; (repeat' split) <;> omega
theorem cl_zero {a b : Int} (h : 0 ≤ a) : cl a b 0 = 0 := by
  unfold cl; rw [if_pos h]
theorem cl_full {a b i : Int} (h : a ≤ b) (h1 : b ≤ i) : cl a b i = b - a := by
  unfold cl; (repeat' split) <;> omega
theorem cnt_step {n q s i : Int} (hp : PL n q s) (h0 : 0 ≤ i) (h1 : i < n) : ∃ r : Nat, regP n q s i = r ∧ r < 8 ∧ ∃ c, (cntL n q s i)[r]? = some c ∧ 0 ≤ c ∧ c ≤ 65536 ∧ (cntL n q s i).set r (c + 1) = cntL n q s (i + 1) := by
  have hp' := hp
  obtain ⟨n1, n2, q1, q2, s1, s2⟩ := hp'
  have hc : (13 + 3 * q + 32 * s ≤ i) ∨ (i < 2) ∨ (2 ≤ i ∧ i < 3) ∨ (3 ≤ i ∧ i < 13) ∨ (13 ≤ i ∧ i < 13 + q) ∨ (13 + q ≤ i ∧ i < 13 + 2 * q) ∨ (13 + 2 * q ≤ i ∧ i < 13 + 3 * q) ∨ (13 + 3 * q ≤ i ∧ i < 13 + 3 * q + 32 * s) := by omega
  rcases hc with h | h | h | h | h | h | h | h
  · have hr := cl_range (a := 13 + 3 * q + 32 * s) (b := n) (i := i) (by omega)
    refine ⟨0, regP_none hp (.inr (.inr (by simp only [regs, List.mem_cons, List.not_mem_nil, or_false, forall_eq_or_imp, forall_eq, inR]; omega))), by decide, cl (13 + 3 * q + 32 * s) (n) i, rfl, by omega, by omega, ?_⟩
    rw [cntL, cntL, cl_in (a := 13 + 3 * q + 32 * s) (b := n) (by omega) (by omega), cl_out (a := 0) (b := 2) (by omega) (by omega), cl_out (a := 2) (b := 3) (by omega) (by omega), cl_out (a := 3) (b := 13) (by omega) (by omega), cl_out (a := 13) (b := 13 + q) (by omega) (by omega), cl_out (a := 13 + q) (b := 13 + 2 * q) (by omega) (by omega), cl_out (a := 13 + 2 * q) (b := 13 + 3 * q) (by omega) (by omega), cl_out (a := 13 + 3 * q) (b := 13 + 3 * q + 32 * s) (by omega) (by omega)]
    rfl
  · have hr := cl_range (a := 0) (b := 2) (i := i) (by omega)
    refine ⟨1, regP_of hp (i := 0) rfl ⟨by dsimp only; omega, by dsimp only; omega⟩, by decide, cl (0) (2) i, rfl, by omega, by omega, ?_⟩
    rw [cntL, cntL, cl_out (a := 13 + 3 * q + 32 * s) (b := n) (by omega) (by omega), cl_in (a := 0) (b := 2) (by omega) (by omega), cl_out (a := 2) (b := 3) (by omega) (by omega), cl_out (a := 3) (b := 13) (by omega) (by omega), cl_out (a := 13) (b := 13 + q) (by omega) (by omega), cl_out (a := 13 + q) (b := 13 + 2 * q) (by omega) (by omega), cl_out (a := 13 + 2 * q) (b := 13 + 3 * q) (by omega) (by omega), cl_out (a := 13 + 3 * q) (b := 13 + 3 * q + 32 * s) (by omega) (by omega)]
    rfl
  · have hr := cl_range (a := 2) (b := 3) (i := i) (by omega)
    refine ⟨2, regP_of hp (i := 1) rfl ⟨by dsimp only; omega, by dsimp only; omega⟩, by decide, cl (2) (3) i, rfl, by omega, by omega, ?_⟩
    rw [cntL, cntL, cl_out (a := 13 + 3 * q + 32 * s) (b := n) (by omega) (by omega), cl_out (a := 0) (b := 2) (by omega) (by omega), cl_in (a := 2) (b := 3) (by omega) (by omega), cl_out (a := 3) (b := 13) (by omega) (by omega), cl_out (a := 13) (b := 13 + q) (by omega) (by omega), cl_out (a := 13 + q) (b := 13 + 2 * q) (by omega) (by omega), cl_out (a := 13 + 2 * q) (b := 13 + 3 * q) (by omega) (by omega), cl_out (a := 13 + 3 * q) (b := 13 + 3 * q + 32 * s) (by omega) (by omega)]
    rfl
  · have hr := cl_range (a := 3) (b := 13) (i := i) (by omega)
    refine ⟨3, regP_of hp (i := 2) rfl ⟨by dsimp only; omega, by dsimp only; omega⟩, by decide, cl (3) (13) i, rfl, by omega, by omega, ?_⟩
    rw [cntL, cntL, cl_out (a := 13 + 3 * q + 32 * s) (b := n) (by omega) (by omega), cl_out (a := 0) (b := 2) (by omega) (by omega), cl_out (a := 2) (b := 3) (by omega) (by omega), cl_in (a := 3) (b := 13) (by omega) (by omega), cl_out (a := 13) (b := 13 + q) (by omega) (by omega), cl_out (a := 13 + q) (b := 13 + 2 * q) (by omega) (by omega), cl_out (a := 13 + 2 * q) (b := 13 + 3 * q) (by omega) (by omega), cl_out (a := 13 + 3 * q) (b := 13 + 3 * q + 32 * s) (by omega) (by omega)]
    rfl
  · have hr := cl_range (a := 13) (b := 13 + q) (i := i) (by omega)
    refine ⟨4, regP_of hp (i := 3) rfl ⟨by dsimp only; omega, by dsimp only; omega⟩, by decide, cl (13) (13 + q) i, rfl, by omega, by omega, ?_⟩
    rw [cntL, cntL, cl_out (a := 13 + 3 * q + 32 * s) (b := n) (by omega) (by omega), cl_out (a := 0) (b := 2) (by omega) (by omega), cl_out (a := 2) (b := 3) (by omega) (by omega), cl_out (a := 3) (b := 13) (by omega) (by omega), cl_in (a := 13) (b := 13 + q) (by omega) (by omega), cl_out (a := 13 + q) (b := 13 + 2 * q) (by omega) (by omega), cl_out (a := 13 + 2 * q) (b := 13 + 3 * q) (by omega) (by omega), cl_out (a := 13 + 3 * q) (b := 13 + 3 * q + 32 * s) (by omega) (by omega)]
    rfl
  · have hr := cl_range (a := 13 + q) (b := 13 + 2 * q) (i := i) (by omega)
    refine ⟨5, regP_of hp (i := 4) rfl ⟨by dsimp only; omega, by dsimp only; omega⟩, by decide, cl (13 + q) (13 + 2 * q) i, rfl, by omega, by omega, ?_⟩
    rw [cntL, cntL, cl_out (a := 13 + 3 * q + 32 * s) (b := n) (by omega) (by omega), cl_out (a := 0) (b := 2) (by omega) (by omega), cl_out (a := 2) (b := 3) (by omega) (by omega), cl_out (a := 3) (b := 13) (by omega) (by omega), cl_out (a := 13) (b := 13 + q) (by omega) (by omega), cl_in (a := 13 + q) (b := 13 + 2 * q) (by omega) (by omega), cl_out (a := 13 + 2 * q) (b := 13 + 3 * q) (by omega) (by omega), cl_out (a := 13 + 3 * q) (b := 13 + 3 * q + 32 * s) (by omega) (by omega)]
    rfl
  · have hr := cl_range (a := 13 + 2 * q) (b := 13 + 3 * q) (i := i) (by omega)
    refine ⟨6, regP_of hp (i := 5) rfl ⟨by dsimp only; omega, by dsimp only; omega⟩, by decide, cl (13 + 2 * q) (13 + 3 * q) i, rfl, by omega, by omega, ?_⟩
    rw [cntL, cntL, cl_out (a := 13 + 3 * q + 32 * s) (b := n) (by omega) (by omega), cl_out (a := 0) (b := 2) (by omega) (by omega), cl_out (a := 2) (b := 3) (by omega) (by omega), cl_out (a := 3) (b := 13) (by omega) (by omega), cl_out (a := 13) (b := 13 + q) (by omega) (by omega), cl_out (a := 13 + q) (b := 13 + 2 * q) (by omega) (by omega), cl_in (a := 13 + 2 * q) (b := 13 + 3 * q) (by omega) (by omega), cl_out (a := 13 + 3 * q) (b := 13 + 3 * q + 32 * s) (by omega) (by omega)]
    rfl
  · have hr := cl_range (a := 13 + 3 * q) (b := 13 + 3 * q + 32 * s) (i := i) (by omega)
    refine ⟨7, regP_of hp (i := 6) rfl ⟨by dsimp only; omega, by dsimp only; omega⟩, by decide, cl (13 + 3 * q) (13 + 3 * q + 32 * s) i, rfl, by omega, by omega, ?_⟩
    rw [cntL, cntL, cl_out (a := 13 + 3 * q + 32 * s) (b := n) (by omega) (by omega), cl_out (a := 0) (b := 2) (by omega) (by omega), cl_out (a := 2) (b := 3) (by omega) (by omega), cl_out (a := 3) (b := 13) (by omega) (by omega), cl_out (a := 13) (b := 13 + q) (by omega) (by omega), cl_out (a := 13 + q) (b := 13 + 2 * q) (by omega) (by omega), cl_out (a := 13 + 2 * q) (b := 13 + 3 * q) (by omega) (by omega), cl_in (a := 13 + 3 * q) (b := 13 + 3 * q + 32 * s) (by omega) (by omega)]
    rfl
def hdI (q s i : Int) : Int := (cl (13 + 3 * q) (13 + 3 * q + 32 * s) i + 31) / 32
theorem hd_out {n q s i : Int} (hp : PL n q s) (h : regP n q s i ≠ 7) : hdI q s (i + 1) = hdI q s i := by
  have h7 : ¬ (13 + 3 * q ≤ i ∧ i < 13 + 3 * q + 32 * s) := fun k => h ((regP_seven hp).2 k)
  obtain ⟨n1, n2, q1, q2, s1, s2⟩ := hp
  unfold hdI
  rw [cl_out (by omega) (by omega)]
theorem hd_in {n q s i : Int} (hp : PL n q s) (h : regP n q s i = 7) : hdI q s (i + 1) = if (logicF n q s i).2 = true then hdI q s i else hdI q s i + 1 := by
  have h7 := (regP_seven hp).1 h
  have hcl : cl (13 + 3 * q) (13 + 3 * q + 32 * s) i = i - (13 + 3 * q) := by unfold cl; (repeat' split) <;> omega
  by_cases hc : (i - (13 + 3 * q)) % 32 ≠ 0
  · have hl : (logicF n q s i).2 = true := by rw [logicF, if_pos ⟨h, hc⟩]
    rw [if_pos hl]
    unfold hdI
    rw [cl_in (by omega) (by omega), hcl]
    omega
  · have hl : (logicF n q s i).2 = false := by rw [logicF, if_neg (fun k => hc k.2)]
    rw [hl, if_neg (by simp)]
    unfold hdI
    rw [cl_in (by omega) (by omega), hcl]
    omega
theorem hd_range {n q s i : Int} (hp : PL n q s) : 0 ≤ hdI q s i ∧ hdI q s i ≤ 65536 := by
  obtain ⟨n1, n2, q1, q2, s1, s2⟩ := hp
  have := cl_range (a := 13 + 3 * q) (b := 13 + 3 * q + 32 * s) (i := i) (by omega)
  unfold hdI
  omega
/-- A block of whole numbers. -/
def IB (w : World) (b : Nat) (T : TypeId) (l : List Int) : Prop := w.heap[b]? = some (.cells (l.map (Value.int .i64)).toArray T (0, 0))
theorem IB.get {w : World} {b : Nat} {T : TypeId} {l : List Int} (h : IB w b T l) {i : Nat} {x : Int} (hx : l[i]? = some x) : w.cell? (Addr.add ⟨b, 0, none⟩ (i * 1)) = some (.int .i64 x) := by
  rw [add_mk, cell_blk h, Nat.zero_add, Nat.mul_one]; simp [hx]
theorem IB.set {w : World} {b : Nat} {T : TypeId} {l : List Int} (h : IB w b T l) {i : Nat} (hi : i < l.length) (x : Int) :
    (w.cell? (Addr.add ⟨b, 0, none⟩ (i * 1))).isSome = true ∧ w.frozen? (Addr.add ⟨b, 0, none⟩ (i * 1)) = false ∧ IB (w.setCell (Addr.add ⟨b, 0, none⟩ (i * 1)) (.int .i64 x)) b T (l.set i x) := by
  rw [add_mk, cell_blk h, frozen_blk h, Nat.zero_add, Nat.mul_one]
  refine ⟨by simp [hi], rfl, ?_⟩
  unfold IB
  rw [blk_set h, List.setIfInBounds_toArray, List.map_set]
theorem dunnagelaw05_LayoutApart.spec (n : Int) (w : World) :
    CallT [.one .bool] Try.prog F.dunnagelaw05_LayoutApart [.int .i64 n] w fun r w' => r = true ∧ Ext w w' := by
  refine dunnagelaw05_LayoutApart.vc n w _ ?_
  refine CallT.mono (layout_Plan.spec n w) ?_
  rintro _ w1 ⟨rfl, e1⟩
  generalize ha : w1.alloc _ = w2
  refine ⟨(lay_mk (x := lay0) ha rfl).1, ?_⟩
  generalize hs : setCells w2 _ 0 _ = w3
  obtain ⟨-, h1, e3, -⟩ := lay_mk (x := (planF n).1) ha hs
  have e03 := e1.tr e3
  refine ⟨fun _ w' => Ext w3 w' ∧ (planF n).2 = 0, ⟨fun b w' => Ext w3 w' ∧ (b = false → (planF n).2 = 0), ?_, ?_⟩, ?_⟩
  · refine CallT.mono (dunnagelaw05_awake.spec w3) ?_
    rintro _ w4 ⟨rfl, e4⟩
    exact cnd_neg rfl (cnd_bne (fun h => ⟨e4, by simp⟩) (fun h => ⟨e4, fun hf => h⟩))
  · rintro b _ w4 ⟨e4, hb⟩
    refine cnd_intro (fun _ => CallT.mono (dunnagelaw05_awake.spec w4) ?_) (fun hf => ⟨e4, hb hf⟩)
    rintro _ w5 ⟨rfl, e5⟩
    exact ⟨rfl, (e03.tr e4).tr e5⟩
  · rintro _ _ w4 ⟨e4, hz⟩
    rcases planF_cases n with hl | ⟨q, s, hp, hl⟩
    · rw [hl] at hz; simp at hz
    rw [hl] at h1
    have h4 := h1.ext e4
    have e04 := e03.tr e4
    have hp' := hp
    obtain ⟨n1, n2, q1, q2, s1, s2⟩ := hp'
    have hb0 : w1.heap.size < w4.heap.size := h4.lt
    refine ⟨fun m x w' => ∃ i : Nat, x = (hdI q s i, (i : Int)) ∧ (i : Int) ≤ n ∧ m = n.toNat - i ∧ Ext w4 w' ∧ IB w' w4.heap.size 60 (cntL n q s i), ⟨_, 0, ?_, by omega, rfl, ext_alloc _ _, ?_⟩, ?_⟩
    · have : hdI q s ((0 : Nat) : Int) = 0 := by unfold hdI; rw [show ((0 : Nat) : Int) = 0 from rfl, cl_zero (by omega)]; rfl
      rw [this]; rfl
    · have : cntL n q s ((0 : Nat) : Int) = [0, 0, 0, 0, 0, 0, 0, 0] := by
        rw [show ((0 : Nat) : Int) = 0 from rfl, cntL, cl_zero (a := 13 + 3 * q + 32 * s) (b := n) (by omega), cl_zero (a := 0) (b := 2) (by omega), cl_zero (a := 2) (b := 3) (by omega), cl_zero (a := 3) (b := 13) (by omega), cl_zero (a := 13) (b := 13 + q) (by omega), cl_zero (a := 13 + q) (b := 13 + 2 * q) (by omega), cl_zero (a := 13 + 2 * q) (b := 13 + 3 * q) (by omega), cl_zero (a := 13 + 3 * q) (b := 13 + 3 * q + 32 * s) (by omega)]
      rw [this]; exact blk_new _ _
    rintro m _ _ w5 ⟨i, rfl, hi, rfl, e5, hI⟩
    have h5 := h4.ext e5
    have e05 := e04.tr e5
    intro ix
    change cnd (decide ((i : Int) < n)) _ _
    refine cnd_dec (fun hlt => ?_) (fun hge => ?_)
    · obtain ⟨r, hr, hr8, c, hc, hc0, hc1, hset⟩ := cnt_step hp (i := i) (by omega) hlt
      refine ⟨lay n q s, h5.all, CallT.mono (layout_Region.spec hp i w5) ?_⟩
      rintro _ w6 ⟨rfl, e6⟩
      rw [hr]
      refine ⟨fun _ w' => w6 = w', cnd_dec (fun h => absurd h (by omega)) (fun _ => cnd_dec (fun h => absurd h (by omega)) (fun _ => rfl)), ?_⟩
      rintro _ _ _ rfl
      have hI6 : IB w6 w4.heap.size 60 (cntL n q s i) := e6.get hI
      rw [Int.toNat_natCast]
      obtain ⟨g1, g2, g3⟩ := hI6.set (i := r) (by simp; exact hr8) (c + 1)
      refine ⟨by omega, by simp; omega, c, hI6.get hc, by omega, by simp; omega, g1, g2, ?_⟩
      rw [i64_id (x := c + 1) (by omega) (by omega)]
      have e47 : Ext w4 (w6.setCell (Addr.add ⟨w4.heap.size, 0, none⟩ (r * 1)) (.int .i64 (c + 1))) := (e5.tr e6).set (fun h => by simp at h) _
      generalize w6.setCell (Addr.add ⟨w4.heap.size, 0, none⟩ (r * 1)) (.int .i64 (c + 1)) = w7 at g3 e47
      rw [hset] at g3
      refine ⟨lay n q s, (h4.ext e47).all, CallT.mono (layout_Logic.spec hp i w7) ?_⟩
      rintro _ w8 ⟨rfl, e8⟩
      have e48 := e47.tr e8
      have g8 : IB w8 w4.heap.size 60 (cntL n q s ((i : Int) + 1)) := e8.get g3
      have hw : IntKind.i64.wrap ((i : Int) + 1) = ((i + 1 : Nat) : Int) := by rw [i64_id] <;> omega
      have hcast : ((i + 1 : Nat) : Int) = (i : Int) + 1 := by omega
      have hrg := hd_range (i := (i : Int)) hp
      have fin : ∀ h', h' = hdI q s ((i : Int) + 1) → ∃ m, m < n.toNat - i ∧ ∃ i' : Nat, (h', IntKind.i64.wrap ((i : Int) + 1)) = (hdI q s i', (i' : Int)) ∧ (i' : Int) ≤ n ∧ m = n.toNat - i' ∧ Ext w4 w8 ∧ IB w8 w4.heap.size 60 (cntL n q s i') := fun h' hh =>
        ⟨n.toNat - (i + 1), by omega, i + 1, by rw [hw, hcast, hh], by omega, rfl, e48, by rw [hcast]; exact g8⟩
      refine cnd_beq (fun h7 => ?_) (fun h7 => fin _ (hd_out hp (by rw [hr]; exact h7)).symm)
      have hin := hd_in hp (i := i) (by rw [hr]; exact h7)
      refine cnd_not (fun hf => fin _ ?_) (fun ht => fin _ ?_)
      · rw [hin, if_neg (by rw [hf]; simp)]; dsimp only; rw [i64_id (by omega) (by omega)]
      · rw [hin, if_pos ht]
    · have hin : (i : Int) = n := by omega
      clear_value ix
      rw [hin] at hI ⊢
      have c1 : cntL n q s n = [n - (13 + 3 * q + 32 * s), 2, 1, 10, q, q, q, 32 * s] := by
        rw [cntL, cl_full (a := 13 + 3 * q + 32 * s) (b := n) (i := n) (by omega) (by omega), cl_full (a := 0) (b := 2) (i := n) (by omega) (by omega), cl_full (a := 2) (b := 3) (i := n) (by omega) (by omega), cl_full (a := 3) (b := 13) (i := n) (by omega) (by omega), cl_full (a := 13) (b := 13 + q) (i := n) (by omega) (by omega), cl_full (a := 13 + q) (b := 13 + 2 * q) (i := n) (by omega) (by omega), cl_full (a := 13 + 2 * q) (b := 13 + 3 * q) (i := n) (by omega) (by omega), cl_full (a := 13 + 3 * q) (b := 13 + 3 * q + 32 * s) (i := n) (by omega) (by omega)]
        simp only [List.cons.injEq, and_true, true_and]
        omega
      have c2 : hdI q s n = s := by
        have h := cl_full (a := 13 + 3 * q) (b := 13 + 3 * q + 32 * s) (i := n) (by omega) (by omega)
        unfold hdI
        rw [h]
        omega
      rw [c1] at hI
      rw [c2]
      have hw32 : IntKind.i64.wrap (s * 32) = 32 * s := by rw [i64_id] <;> omega
      have hw31 : IntKind.i64.wrap (s * 31) = 31 * s := by rw [i64_id] <;> omega
      refine ⟨fun w => LB w w1.heap.size (lay n q s) ∧ IB w w4.heap.size 60 [n - (13 + 3 * q + 32 * s), 2, 1, 10, q, q, q, 32 * s], ⟨h5.ext (ext_drew _), hI⟩, by omega, by omega, 2, fun w h => h.2.get (i := 1) rfl, cnd_pos rfl ?_⟩
      refine ⟨by omega, by omega, 1, fun w h => h.2.get (i := 2) rfl, cnd_pos rfl ?_⟩
      refine ⟨by omega, by omega, 10, fun w h => h.2.get (i := 3) rfl, cnd_pos rfl ?_⟩
      refine ⟨by omega, by omega, q, fun w h => h.2.get (i := 4) rfl, q, fun w h => h.1.get 3 rfl, cnd_pos (by simp) ?_⟩
      refine ⟨by omega, by omega, q, fun w h => h.2.get (i := 5) rfl, q, fun w h => h.1.get 6 rfl, cnd_pos (by simp) ?_⟩
      refine ⟨by omega, by omega, q, fun w h => h.2.get (i := 6) rfl, q, fun w h => h.1.get 6 rfl, cnd_pos (by simp) ?_⟩
      refine ⟨by omega, by omega, 32 * s, fun w h => h.2.get (i := 7) rfl, s, fun w h => h.1.get 8 rfl, cnd_pos (by rw [hw32]; simp) ?_⟩
      refine ⟨s, fun w h => h.1.get 8 rfl, cnd_pos (by simp) ?_⟩
      refine ⟨by omega, by omega, n - (13 + 3 * q + 32 * s), fun w h => h.2.get (i := 0) rfl, cnd_pos (by simp; omega) ?_⟩
      refine ⟨lay n q s, fun w h => h.1.all, s, fun w h => h.1.get 8 rfl, CallT.mono (layout_Capacity.spec hp _) ?_⟩
      rintro _ w6 ⟨rfl, e6⟩
      have e56 := (ext_drew w5).tr e6
      refine ⟨⟨h5.ext e56, Ext.get e56 hI⟩, cnd_pos (by rw [hw31]; simp) ⟨q, fun w h => h.1.get 3 rfl, cnd_pos (by simp; omega) ⟨s, fun w h => h.1.get 8 rfl, by simp; omega, e05.tr e56⟩⟩⟩
end Go.Proofs
