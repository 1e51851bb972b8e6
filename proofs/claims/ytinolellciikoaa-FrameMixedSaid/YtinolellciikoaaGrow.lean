/- append of so many zeros to a nil slice (what slices.Grow does). Conditions: those of the lemma. -/
import Derived.Test.YtinolellciikoaaCond14
import Derived.Test.YtinolellciikoaaByt
import Derived.Test.YtinolellciikoaaHelp
namespace Go.Vc
open Go
set_option maxRecDepth 4000 in
theorem appV_grow {P : Program} {ts : List TypeId} {ty e t0 t1 : TypeId} {sz bt : Nat} {z : List Value} {w : World} {n : Nat} {k : IntKind} {K : SV → World → Prop}
    (ht0 : ts.toArray[0]? = some t0) (hu0 : P.underlying t0 = some (.slice e)) (ht1 : ts.toArray[1]? = some t1) (hu1 : P.underlying t1 = some (.int k)) (hsz : szOf P e = some sz) (hb : (P.info? e).map (·.bytes) = some bt) (hpos : 0 < bt)
    (hz : zeroL P e = some z) (h0 : 0 < n) (hspos : 0 < sz) (hroom : (2 * n + 192) * bt ≤ 281474976710656)
    (hk : ∀ nc, n ≤ nc → K ⟨some ⟨w.heap.size, 0, none⟩, n, nc⟩ (w.drew.alloc (.cells (reps nc z).toArray e))) :
    appV P ts ty [.slice none 0 0, .int .i64 (n : Int)] w K := by
  obtain ⟨i, hi, hbt⟩ : ∃ i, P.info? e = some i ∧ i.bytes = bt := by cases hq : P.info? e <;> simp_all
  obtain ⟨zv, hzr, hzl⟩ := run_zeroL hz
  have hinf : (typeInfo e).run P = fun w => .ok i w := by funext w; exact run_info hi w
  have hnb : n * bt ≤ 281474976710656 := Nat.le_trans (Nat.mul_le_mul_right _ (by omega)) hroom
  have hn63 : n ≤ 281474976710656 := Nat.le_trans (Nat.le_mul_of_pos_right _ hpos) hnb
  have hw : IntKind.i64.wrap (n : Int) = n := by rw [i64_id] <;> omega
  have hnext : Builtin.nextslicecap n 0 * bt ≤ 281474976710656 := by rw [nextcap_zero h0]; exact hnb
  unfold appV runV
  let q := Question.appendCap n 0 e
  let nc := q.cut (w.tape w.drawn q)
  have hnc : n ≤ nc := Nat.le_add_right _ _
  have hns : n * sz ≠ 0 := by have := Nat.mul_pos h0 hspos; omega
  have hrep : reps n z ++ reps (nc - n) z = reps nc z := by
    have : nc = n + (nc - n) := by omega
    generalize nc - n = m at this ⊢
    rw [this]
    clear this hnc nc q hns hnext hn63 hnb hroom hk h0 hw
    induction n with
    | zero => simp [reps]
    | succ n ih => rw [show n + 1 + m = (n + m) + 1 by omega, reps, reps, List.append_assoc, ih]
  refine ⟨⟨some ⟨w.heap.size, 0, none⟩, n, nc⟩, w.drew.alloc (.cells (reps nc z).toArray e), ?_, hk nc hnc⟩
  simp only [Builtin.append_]
  have hnb' : ¬ ((n : Int) * (bt : Int) > 2 ^ 48) := by
    have : ((n * bt : Nat) : Int) ≤ ((281474976710656 : Nat) : Int) := Int.ofNat_le.2 hnb
    rw [Int.natCast_mul] at this
    have h2 : ((2 : Int) ^ 48) = ((281474976710656 : Nat) : Int) := rfl
    rw [h2]; omega
  have hn0 : ¬ ((n : Int) < 0) := by omega
  have hb0 : ¬ bt = 0 := by omega
  have hfit : ¬ (n ≤ 0) := by omega
  have hz1 : (Builtin.firstCells sz 0 (.slice none 0 0)).run P w.drew = .ok #[] w.drew := rfl
  have hroom' : ¬ (Builtin.nextslicecap n 0 * bt > 2 ^ 48) := by omega
  have hroom2 : ¬ (Builtin.nextslicecap n 0 * bt > 281474976710656) := by omega
  have hmx : ¬ ((n : Int) > IntKind.i64.max) := by have : IntKind.i64.max = 9223372036854775807 := rfl; omega
  have hask : ∀ w : World, (asInt (.int .i64 (n : Int))).run P w = .ok (n : Int) w := fun _ => rfl
  rw [ht0, ht1]
  simp only [List.getElem?_toArray, List.getElem?_cons_zero, List.getElem?_cons_succ, Sem.run_bind, run_underlying hu0, run_underlying hu1, run_szOf hsz, Result.andThen_ok, Sem.run_pure, if_true, hask, hw, hn0, if_false, hinf, hbt, hnb', Int.toNat_natCast, Nat.zero_add, hfit, Nat.reducePow, hmx, Bool.not_true, hb0, hns, newRow, zeroCells_eq]
  simp only [Sem.run_bind, Result.andThen_ok, Sem.run_pure, hfit, if_false, hinf, hbt, hmx, false_and, hroom2, run_choose, Question.forced, run_askRoom, World.drew_eq, hz1, hns, hzr, newRow, run_newObj, zeroCells_eq, hzl, Bool.false_eq_true]
  rw [← hrep]
  simp only [List.append_toArray]
  rfl
end Go.Vc
namespace Go.Proofs
open Go Go.Vc
theorem grow.spec (n : Nat) (hn : n ≤ 1000000000) (w : World) :
    CallT [.one .slice] Try.prog F.slices_Grow_byte_byte [.slice none 0 0, .int .i64 (n : Int)] w fun o w' => OwnB w' w.heap.size o [] ∧ Ext w w' := by
  refine slices_Grow_byte_byte.vc ⟨none, 0, 0⟩ (n : Int) w _ ?_
  refine ⟨fun _ w' => w = w', cnd_neg (decide_eq_false (by omega)) rfl, ?_⟩
  rintro _ _ _ rfl
  have h1 : IntKind.i64.wrap ((((⟨none, 0, 0⟩ : SV).cap : Nat) : Int) - (((⟨none, 0, 0⟩ : SV).len : Nat) : Int)) = 0 := by rw [i64_id] <;> simp
  have h2 : IntKind.i64.wrap ((n : Int) - 0) = n := by rw [i64_id] <;> omega
  rw [h1, h2]
  dsimp only
  refine cnd_dec (fun hp => ?_) (fun hz => ⟨Own.nil _ _ _ _, Upd.refl _ _⟩)
  refine ⟨by simp, by simp, ?_⟩
  have hs0 : subA (none : Option Addr) 0 1 0 = none := subA_zero _ _ _
  rw [hs0]
  refine appV_grow (ts := [T.sl_uint8, T.int]) (e := T.uint8) (t0 := T.sl_uint8) (t1 := T.int) (sz := 1) (bt := 1) (z := [.int .u8 0]) (k := .i64) rfl sl_u8 rfl (by kernel_rfl) (by kernel_rfl) (by kernel_rfl) (by decide) u8_z (by omega) (by decide) (by omega) fun nc hnc => ?_
  refine ⟨by simp, by simp, ?_, (Upd.refl _ w).drew.alloc _⟩
  rw [subA_zero]
  exact ⟨rfl, .inr ⟨w.heap.size, reps nc [.int .u8 0], rfl, Nat.le_refl _, blk_new w.drew _, by rw [show B8 [] ++ reps nc [Value.int .u8 0] = reps nc [Value.int .u8 0] from rfl, reps_length]; rfl, Nat.zero_le _⟩⟩
end Go.Proofs
