/- The walk of dunnagelaw01.WordRows: it answers true, and turns nothing that was there. Conditions: what came in is small. -/
import Derived.Test.YtbnnpnillppdhaaCond2
import Derived.Test.YtbnnpnillppdhaaVarMath
import Derived.Test.YtbnnpnillppdhaaRowsL
import Derived.Test.YtbnnpnillppdhaaBulk
namespace Go.Proofs
open Go Go.Vc
/-! ### texts, there and back -/
theorem readText_textB {a rest x : List UInt8} {most : Int} (hx : x.length < 2 ^ 64) (hm : (x.length : Int) ≤ most) :
    readText (a ++ (textB x ++ rest)) (a.length : Int) most = (x, ((a.length + (textB x).length : Nat) : Int), 0) := by
  unfold readText
  rw [textB, List.append_assoc, readVar_varB hx]
  dsimp only
  rw [if_neg (by simp), if_neg (by omega), if_neg (by simp only [List.length_append]; omega)]
  rw [Int.toNat_natCast, Int.toNat_natCast]
  refine Prod.ext ?_ (Prod.ext ?_ rfl)
  · simp only
    rw [← List.append_assoc, List.drop_left' (by rw [List.length_append]), List.take_left]
  · simp only [List.length_append]; omega
/-- A number's bytes, cut short, are too short. -/
theorem rvGo_cut : ∀ (x n v m : Nat), n ≤ 9 → x * 128 ^ n < 2 ^ 64 → (n = 0 ∨ 0 < x) → m < (varB x).length → rvGo n v ((varB x).take m) = (0, 0, 10) := by
  intro x
  induction x using Nat.strongRecOn with
  | ind x ih =>
    intro n v m hn hx h0 hm
    have hpos : 0 < 128 ^ n := Nat.pow_pos (by decide)
    by_cases hlt : x < 128
    · rw [varB_lt hlt] at hm ⊢
      have : m = 0 := by simp at hm; exact hm
      subst this
      rfl
    · have hn8 : n ≤ 8 := by
        rcases Nat.lt_or_ge 8 n with h | h
        · have : n = 9 := by omega
          subst this
          have : 128 * 128 ^ 9 ≤ x * 128 ^ 9 := Nat.mul_le_mul_right _ (by omega)
          omega
        · exact h
      have hc : (UInt8.ofNat (x % 128 + 128)).toNat = x % 128 + 128 := by simp; omega
      have hsplit : x * 128 ^ n = x % 128 * 128 ^ n + x / 128 * 128 ^ (n + 1) := by
        rw [Nat.pow_succ, Nat.mul_comm (128 ^ n) 128, ← Nat.mul_assoc, ← Nat.add_mul]
        congr 1; omega
      rw [varB_ge hlt] at hm ⊢
      cases m with
      | zero => rfl
      | succ m =>
        rw [List.take_succ_cons, rvGo, hc, if_neg (by omega), if_neg (by omega)]
        exact ih (x / 128) (by omega) (n + 1) _ m (by omega) (by omega) (.inr (by omega)) (by simp at hm; omega)
theorem readText_cut {a x : List UInt8} {m : Nat} {most : Int} (hx : x.length < 2 ^ 64) (hm : (x.length : Int) ≤ most) (hcut : m < (textB x).length) : (readText (a ++ (textB x).take m) (a.length : Int) most).2.2 = 10 := by
  unfold readText
  by_cases h : m < (varB x.length).length
  · have : readVar (a ++ (textB x).take m) (a.length : Int) = (0, 0, 10) := by
      rw [readVar_nat, List.drop_left, textB, List.take_append_of_le_length (by omega), rvGo_cut x.length 0 0 m (by omega) (by simpa using hx) (.inl rfl) h]
      rfl
    rw [this]; rfl
  · have hl : (textB x).length = (varB x.length).length + x.length := by rw [textB, List.length_append]
    have ht : (textB x).take m = varB x.length ++ x.take (m - (varB x.length).length) := by
      rw [textB, List.take_append, List.take_of_length_le (by omega)]
    rw [ht, readVar_varB hx]
    dsimp only
    rw [if_neg (by simp), if_neg (by omega), if_pos (by simp only [List.length_append, List.length_take]; omega)]
def rowsB (l : List (List UInt8)) : List UInt8 := l.flatMap textB
theorem rowsB_take {l : List (List UInt8)} {i : Nat} {x : List UInt8} (hx : l[i]? = some x) : rowsB (l.take (i + 1)) = rowsB (l.take i) ++ textB x := by
  rw [List.take_add_one, hx, Option.toList_some, rowsB, List.flatMap_append]; simp [rowsB]
theorem rowsB_split {l : List (List UInt8)} {i : Nat} {x : List UInt8} (hx : l[i]? = some x) : rowsB l = rowsB (l.take i) ++ (textB x ++ rowsB (l.drop (i + 1))) := by
  have hi := (List.getElem?_eq_some_iff.1 hx)
  have h1 : l = l.take i ++ (x :: l.drop (i + 1)) := by
    obtain ⟨hlt, rfl⟩ := hi
    rw [← List.drop_eq_getElem_cons hlt, List.take_append_drop]
  conv => lhs; rw [h1]
  rw [rowsB, List.flatMap_append, List.flatMap_cons]; rfl
theorem textB_len' {x : List UInt8} (h : x.length ≤ 1048576) : (textB x).length ≤ 1048586 := by
  have := varB_10 (v := x.length) (by omega)
  rw [textB, List.length_append]; omega
theorem rowsB_len : ∀ {l : List (List UInt8)}, (∀ x ∈ l, x.length ≤ 1048576) → (rowsB l).length ≤ l.length * 1048586
  | [], _ => by simp [rowsB]
  | x :: r, h => by
    have h1 := textB_len' (h x (by simp))
    have h2 := rowsB_len (l := r) fun y hy => h y (by simp [hy])
    have h3 : (rowsB (x :: r)).length = (textB x).length + (rowsB r).length := by rw [rowsB, List.flatMap_cons, List.length_append]; rfl
    rw [h3, List.length_cons, Nat.add_mul]; omega
theorem textB_pos (x : List UInt8) : 0 < (textB x).length := by
  have := List.length_pos_iff.2 (varB_ne x.length)
  rw [textB, List.length_append]; omega
theorem dunnagelaw01_WordRows.spec {s : SV} {l : List (List UInt8)} {cut : Int} {w : World} (hs : RdL w s l) (hn : l.length ≤ 1048576) (hx : ∀ x ∈ l, x.length ≤ 1048576) :
    CallT [.one .bool] Try.prog F.dunnagelaw01_WordRows [.slice s.a s.len s.cap, .int .i64 cut] w fun r w' => r = true ∧ Ext w w' := by
  refine dunnagelaw01_WordRows.vc s cut w _ ?_
  have hsl := hs.len
  have hall : ∀ {i : Nat} {x : List UInt8}, l[i]? = some x → x.length ≤ 1048576 := fun h => hx _ (List.mem_of_getElem? h)
  have hrl := rowsB_len hx
  refine ⟨fun n x w' => ∃ i : Nat, x.2 = i ∧ i ≤ l.length ∧ n = l.length - i ∧ OwnB w' w.heap.size x.1 (rowsB (l.take i)) ∧ Ext w w', ⟨_, 0, rfl, by omega, rfl, Own.nil _ _ _ _, Upd.refl _ _⟩, ?_⟩
  rintro n ⟨o, i'⟩ _ w1 ⟨i, h2, hi, rfl, ho, e1⟩
  dsimp only at h2 ho ⊢
  subst h2
  have htk := rowsB_len (l := l.take i) fun x h => hx x (List.mem_of_mem_take h)
  rw [List.length_take, Nat.min_eq_left hi] at htk
  have hb : i * 1048586 ≤ 1048576 * 1048586 := Nat.mul_le_mul_right _ (by omega)
  refine cnd_dec (fun hlt => ?_) (fun hge => ?_)
  · have hil : i < l.length := by omega
    have hxi : l[i]? = some l[i] := List.getElem?_eq_getElem hil
    generalize l[i] = x at hxi
    have hw : IntKind.i64.wrap ((i : Int) + 1) = ((i + 1 : Nat) : Int) := by rw [i64_id] <;> omega
    refine ⟨by omega, by omega, (hs.ext e1).at_ hxi fun A t hA hc ht => ⟨t, by rw [Int.toNat_natCast]; exact hc, ?_⟩⟩
    refine CallT.mono (word_Text.spec ht (by have := hall hxi; omega)) ?_
    rintro o2 w2 ⟨h2, e2, _⟩
    have hol := ho.lenB
    have h2l := h2.lenB
    have h2t := textB_len' (hall hxi)
    refine app_rd appB (e1.tr e2) (ho.ext e2) h2.rd (B8_one _) (fun hlt => Nat.le_trans (Nat.mul_le_mul_right _ (nextcap_le hlt)) (by omega)) ?_
    intro s' w3 h3 e3 _ _
    refine ⟨l.length - (i + 1), by omega, i + 1, hw, by omega, rfl, ?_, e3⟩
    rw [rowsB_take hxi, OwnB, B8_append]; exact h3
  · have : i = l.length := by omega
    subst this
    rw [List.take_length] at ho htk
    have hol := ho.lenB
    refine CallT.mono (dunnagelaw01_awake.spec w1) ?_
    rintro _ w2 ⟨rfl, e2⟩
    refine cnd_neg rfl ?_
    refine ⟨fun n x w' => ∃ i : Nat, x = (((rowsB (l.take i)).length : Int), (i : Int)) ∧ i ≤ l.length ∧ n = l.length - i ∧ Ext w1 w', ⟨_, 0, rfl, by omega, rfl, e2⟩, ?_⟩
    rintro n _ _ w3 ⟨i, rfl, hi, rfl, e3⟩
    dsimp only
    have ho3 : OwnB w3 w.heap.size o (rowsB l) := ho.ext e3
    have e03 := e1.tr e3
    refine cnd_dec (fun hlt => ?_) (fun hge => ?_)
    · have hil : i < l.length := by omega
      have hxi : l[i]? = some l[i] := List.getElem?_eq_getElem hil
      generalize l[i] = x at hxi
      have hsp := rowsB_split hxi
      have hxl := hall hxi
      have hle : (rowsB (l.take i)).length + ((textB x).length + (rowsB (l.drop (i + 1))).length) = (rowsB l).length := by rw [hsp]; simp only [List.length_append]
      have htx : x.length ≤ (textB x).length := by rw [textB, List.length_append]; omega
      have hrt : readText (rowsB l) ((rowsB (l.take i)).length : Int) (o.len : Int) = (x, (((rowsB (l.take i)).length + (textB x).length : Nat) : Int), 0) := by
        conv => lhs; rw [hsp]
        exact readText_textB (by omega) (by omega)
      refine CallT.mono (word_ReadText.spec ho3.rd ho3.cap_le (by omega) _ _ (by omega) (by omega)) ?_
      rintro ⟨t, nx, er⟩ w4 ⟨h4, hr4, e4⟩
      rw [hrt] at h4 hr4
      simp only [Prod.mk.injEq] at hr4
      obtain ⟨rfl, rfl⟩ := hr4
      have hpos := textB_pos x
      dsimp only at h4 ⊢
      have hw : IntKind.i64.wrap ((i : Int) + 1) = ((i + 1 : Nat) : Int) := by rw [i64_id] <;> omega
      refine cnd_neg rfl (cnd_dec (fun h => absurd h (by omega)) (fun _ => ⟨by omega, by omega, ((hs.ext e03).ext e4).at_ hxi fun A t' hA hc ht => ⟨t', by rw [Int.toNat_natCast]; exact hc, ?_⟩⟩))
      refine CallT.mono (dunnagehelp_Bytes.spec h4.rd ht) ?_
      rintro _ _ ⟨rfl, rfl⟩
      refine cnd_neg (by simp) ⟨l.length - (i + 1), by omega, i + 1, ?_, by omega, rfl, e3.tr e4⟩
      rw [hw, rowsB_take hxi, List.length_append]
    · have : i = l.length := by omega
      subst this
      rw [List.take_length]
      refine ⟨fun _ w' => w3 = w' ∧ 0 < l.length, cnd_bne (fun h => absurd (by rw [hol]) h) (fun _ => cnd_beq (fun h0 => ⟨by rw [hol]; simp, e03⟩) (fun h0 => ⟨rfl, by omega⟩)), ?_⟩
      rintro _ _ _ ⟨rfl, hpos⟩
      have hil : l.length - 1 < l.length := by omega
      have hxi : l[l.length - 1]? = some l[l.length - 1] := List.getElem?_eq_getElem hil
      generalize l[l.length - 1] = x at hxi
      have hsp := rowsB_split hxi
      have hxl := hall hxi
      have hw1 : IntKind.i64.wrap ((s.len : Int) - 1) = ((l.length - 1 : Nat) : Int) := by rw [i64_id] <;> omega
      rw [hw1]
      refine ⟨by omega, by omega, (hs.ext e03).at_ hxi fun A t hA hc ht => ⟨t, by rw [Int.toNat_natCast]; exact hc, ?_⟩⟩
      refine CallT.mono (word_Text.spec ht (by omega)) ?_
      rintro q w4 ⟨h4, e4, _⟩
      have hql := h4.lenB
      have htp := textB_pos x
      have htl := textB_len' hxl
      have hnil : rowsB (l.drop (l.length - 1 + 1)) = [] := by rw [List.drop_eq_nil_of_le (by omega)]; rfl
      rw [hnil, List.append_nil] at hsp
      have hle : (rowsB (l.take (l.length - 1))).length + (textB x).length = (rowsB l).length := by rw [hsp]; simp only [List.length_append]
      have htx : x.length ≤ (textB x).length := by rw [textB, List.length_append]; omega
      have hwq : IntKind.u64.wrap (q.len : Int) = (((textB x).length : Nat) : Int) := by rw [u64_id] <;> omega
      obtain ⟨k, hk, hk1⟩ : ∃ k : Nat, IntKind.i64.wrap ((IntKind.u64.wrap cut).tmod (((textB x).length : Nat) : Int)) = k ∧ k < (textB x).length := by
        have h0 : 0 ≤ IntKind.u64.wrap cut := by rw [u64_mod]; omega
        have h1 := Int.emod_nonneg (IntKind.u64.wrap cut) (b := (((textB x).length : Nat) : Int)) (by omega)
        have h2 := Int.emod_lt_of_pos (IntKind.u64.wrap cut) (b := (((textB x).length : Nat) : Int)) (by omega)
        rw [Int.tmod_eq_emod_of_nonneg h0, i64_id (by omega) (by omega)]
        exact ⟨(IntKind.u64.wrap cut % (((textB x).length : Nat) : Int)).toNat, by omega, by omega⟩
      rw [hwq]
      refine ⟨by omega, ?_⟩
      have he5 : IntKind.i64.wrap (IntKind.i64.wrap ((o.len : Int) - 1) - IntKind.i64.wrap ((IntKind.u64.wrap cut).tmod (((textB x).length : Nat) : Int))) = (((rowsB l).length - 1 - k : Nat) : Int) := by
        rw [hk, i64_id (x := (o.len : Int) - 1) (by omega) (by omega), i64_id (by omega) (by omega)]; omega
      rw [he5]
      have ho4 := ho3.ext e4
      have hoc := ho4.cap_le
      have hw2 : IntKind.i64.wrap ((o.len : Int) - (q.len : Int)) = (((rowsB (l.take (l.length - 1))).length : Nat) : Int) := by rw [i64_id] <;> omega
      rw [hw2]
      simp only [Int.toNat_natCast]
      refine ⟨by omega, by omega, ?_⟩
      have hsub := ho4.rd.subB hoc (i := 0) (j := (rowsB l).length - 1 - k) (by omega) (by omega)
      have hcut : ((rowsB l).drop 0).take ((rowsB l).length - 1 - k - 0) = rowsB (l.take (l.length - 1)) ++ (textB x).take ((textB x).length - 1 - k) := by
        rw [List.drop_zero, Nat.sub_zero]
        conv => lhs; rw [hsp]
        rw [List.take_append, List.take_of_length_le (by simp only [List.length_append]; omega)]
        congr 2
        simp only [List.length_append]; omega
      rw [hcut] at hsub
      refine CallT.mono (word_ReadText.spec hsub (by dsimp only; omega) (by simp only [List.length_append, List.length_take]; omega) _ _ (by omega) (by omega)) ?_
      rintro ⟨t2, nx, er⟩ w5 ⟨_, h5, e5⟩
      have h10 := readText_cut (a := rowsB (l.take (l.length - 1))) (x := x) (m := (textB x).length - 1 - k) (most := (o.len : Int)) (by omega) (by omega) (by omega)
      rw [← h5] at h10
      dsimp only at h10 ⊢
      rw [h10]
      exact ⟨rfl, (e03.tr e4).tr e5⟩
theorem dunnagelaw01_WordRows.row {a0 : Option Addr} {len0 cap0 : Nat} {cut : Int} {w : World} (h : DS.rel w bdUpto bsUpto (.slice T.sl_uint8 1 (.slice T.uint8 1 (.int .u8))) [.slice a0 len0 cap0]) :
    CallT [.one .bool] Try.prog F.dunnagelaw01_WordRows [.slice a0 len0 cap0, .int .i64 cut] w fun r w' => r = true ∧ Ext w w' := by
  obtain ⟨l, h1, h2, h3, h4⟩ := lists_rel h
  have hl := h1.len
  simp only at hl
  refine dunnagelaw01_WordRows.spec h1 ?_ fun x hx => ?_
  · rcases h3 with h3 | h3
    · omega
    · have : cap0 ≤ 1048576 := h3
      omega
  · rcases h4 x hx with rfl | ⟨n, hn, hb⟩
    · simp
    · have : n ≤ 1048576 := hb
      omega
end Go.Proofs
