/- dunnagehelp over bytes: Own, Plain, Kept, Spoil; slices.Clone. Conditions: those of each contract. -/
import Derived.Test.YtinolellciikoaaCond7
import Derived.Test.YtinolellciikoaaCond13
import Derived.Test.YtinolellciikoaaCond14
import Derived.Test.YtinolellciikoaaByt
import Derived.Test.YtinolellciikoaaSpare
namespace Go.Proofs
open Go Go.Vc

theorem u8_z : zeroL Try.prog T.uint8 = some [.int .u8 0] := by kernel_rfl
theorem sl_u8 : Try.prog.underlying T.sl_uint8 = some (.slice T.uint8) := by kernel_rfl

/-! ### Own -/
theorem dunnagehelp_Own_byte.spec {w : World} {s : SV} {l : List UInt8} (hs : RdB w s l) (hl : l.length ≤ 140737488351232) (c : Int) :
    CallT [.one .slice] Try.prog F.dunnagehelp_Own_byte [.slice s.a s.len s.cap, .int .u8 c] w fun o w' =>
      o.len = l.length ∧ o.cap = l.length + 3 ∧ Ext w w' ∧ ∃ b, Spare w' w.heap.size T.uint8 1 o b (B8 l) [.int .u8 c, .int .u8 c, .int .u8 c] := by
  have hlen := hs.lenB
  have h3 : IntKind.i64.wrap ((s.len : Int) + 3) = ((l.length + 3 : Nat) : Int) := by rw [i64_id] <;> omega
  refine dunnagehelp_Own_byte.vc s c w _ ?_
  rw [h3]
  refine mkSV_own (bt := 1) (sz := 1) sl_u8 (by kernel_rfl) (by kernel_rfl) u8_z rfl (by omega) (by omega) (by omega) (by omega) ?_
  rw [show (Int.toNat 0) = 0 from rfl, Int.toNat_natCast, reps_eq]
  have h0 : Spare (w.alloc (.cells (List.replicate (l.length + 3) (Value.int .u8 0)).toArray T.uint8)) w.heap.size T.uint8 1 ⟨some ⟨w.heap.size, 0, none⟩, 0, l.length + 3⟩ w.heap.size [] (List.replicate (l.length + 3) (.int .u8 0)) :=
    ⟨rfl, Nat.le_refl _, blk_new _ _, rfl, by simp⟩
  refine appV_fit appB h0 ((hs.ext (ext_alloc _ _)).src (B8_one _)) (by simp only; omega) ?_
  intro w1 h1 hu
  have he1 : Ext w w1 := (ext_alloc w _).trans hu fun x hx e => by omega
  simp only [List.nil_append, Nat.zero_add, List.drop_replicate, B8_length, show l.length + 3 - l.length = 3 by omega] at h1 ⊢
  rw [hlen] at h1 ⊢
  have hw : IntKind.i64.wrap ((l.length : Int) + 3) = ((l.length + 3 : Nat) : Int) := by rw [i64_id] <;> omega
  simp only [Nat.sub_zero]
  refine ⟨by omega, by omega, fun n x w' => ∃ k : Nat, k ≤ 3 ∧ x = ((l.length + k : Nat) : Int) ∧ n = 3 - k ∧ Ext w w' ∧
      w'.heap[w.heap.size]? = some (.cells (B8 l ++ (List.replicate k (Value.int .u8 c) ++ List.replicate (3 - k) (Value.int .u8 0))).toArray T.uint8 (0, 0)), ⟨_, 0, by omega, rfl, rfl, he1, h1.blk⟩, ?_⟩
  rintro n x j w' ⟨k, hk, rfl, rfl, he, hb⟩
  refine cnd_dec (fun hlt => ?_) (fun hge => ?_)
  · have hk3 : k < 3 := by omega
    simp only [subA_zero, onP_some, Int.toNat_natCast, Nat.mul_one, add_mk, Nat.zero_add]
    refine ⟨by omega, by omega, ?_⟩
    rw [cell_blk hb, frozen_blk hb]
    refine ⟨?_, rfl, 3 - (k + 1), by omega, k + 1, by omega, by rw [i64_id] <;> omega, rfl, ?_, ?_⟩
    · simp [B8_length]; omega
    · exact he.set (p := ⟨w.heap.size, l.length + k, none⟩) (fun h => by simp at h) _
    · rw [blk_set hb]
      have := set_rep (B8 l) (Value.int .u8 c) (Value.int .u8 0) 3 k hk3
      rw [B8_length] at this
      simp [this]
  · have hk3 : k = 3 := by omega
    subst hk3
    exact ⟨trivial, trivial, he, _, ⟨rfl, Nat.le_refl _, hb, by simp [B8_length], by simp [B8_length]⟩⟩

/-! ### Plain, Kept -/
theorem dunnagehelp_Plain_byte.spec {a b : SV} {x y : List UInt8} {w : World} (ha : RdB w a x) (hb : RdB w b y) (hx : x.length < 2 ^ 62) :
    CallT [.one .bool] Try.prog F.dunnagehelp_Plain_byte [.slice a.a a.len a.cap, .slice b.a b.len b.cap] w fun r w' => r = (x == y) ∧ Ext w w' := by
  refine dunnagehelp_Plain_byte.vc a b w _ (dunnagehelp_Same_byte.vc a b _ w _ ?_)
  have hal := ha.lenB
  have hbl := hb.lenB
  refine cnd_bne (fun hne => ?_) (fun he => ?_)
  · have : x ≠ y := fun e => hne (by rw [hal, hbl, e])
    exact ⟨by simp [this], Upd.refl _ _⟩
  have hxy : x.length = y.length := by omega
  refine ⟨fun n i w' => ∃ k : Nat, i = k ∧ k ≤ x.length ∧ n = x.length - k ∧ Ext w w' ∧ x.take k = y.take k, ⟨_, 0, rfl, by omega, rfl, Upd.refl _ _, rfl⟩, ?_⟩
  rintro n i j w' ⟨k, rfl, hk, rfl, hu, hq⟩
  refine cnd_dec (fun hlt => ?_) (fun hge => ?_)
  · have hkx : k < x.length := by omega
    have hky : k < y.length := by omega
    have hw : Ext w w'.drew := hu.drew
    refine ⟨by omega, by omega, SV.getB ha hkx fun A hA => ⟨(x[k]).toNat, (ha.ext hw).cellB (List.getElem?_eq_getElem hkx) hA, by omega, by omega,
      SV.getB hb hky fun B hB => ⟨(y[k]).toNat, (hb.ext hw).cellB (List.getElem?_eq_getElem hky) hB, dunnagehelp_Plain_byte_1.vc _ _ _ _ ?_⟩⟩⟩
    refine cnd_not (fun hf => ?_) (fun ht => ?_)
    · refine ⟨?_, hw⟩
      have : x ≠ y := by
        rintro rfl
        simp at hf
      simp [this]
    · have hb : x[k] = y[k] := by rw [← UInt8.toNat_inj]; have := (beq_iff_eq.1 ht); omega
      refine ⟨_, ?_, k + 1, by rw [i64_id] <;> omega, by omega, rfl, hw, ?_⟩
      · omega
      · rw [List.take_add_one, List.take_add_one, hq, List.getElem?_eq_getElem hkx, List.getElem?_eq_getElem hky, hb]
  · have hk2 : k = x.length := by omega
    subst hk2
    rw [List.take_length, List.take_of_length_le (by omega)] at hq
    exact ⟨by simp [hq], hu⟩
theorem dunnagehelp_Kept_byte.spec {o b : SV} {x y : List UInt8} {w : World} {B g : Nat} {c : Nat} (ho : Spare w B T.uint8 1 o g (B8 x) [.int .u8 c, .int .u8 c, .int .u8 c]) (hb : RdB w b y) (hx : x.length < 2 ^ 62) :
    CallT [.one .bool] Try.prog F.dunnagehelp_Kept_byte [.slice o.a o.len o.cap, .slice b.a b.len b.cap, .int .u8 c] w fun r w' => r = (x == y) ∧ Ext w w' := by
  refine dunnagehelp_Kept_byte.vc o b c w _ ?_
  have hol : o.len = x.length := by have := ho.len; rw [B8_length, Nat.mul_one] at this; exact this.symm
  have hoc : o.cap = x.length + 3 := by have := ho.cap; simp [B8_length] at this; omega
  have hbl := hb.lenB
  refine ⟨fun _ w' => x = y ∧ Ext w w', ?_, ?_⟩
  · refine CallT.mono (dunnagehelp_Plain_byte.spec ho.rd hb hx) ?_
    rintro _ w1 ⟨rfl, he⟩
    refine cnd_not (fun hf => ⟨hf.symm, he⟩) (fun ht => ?_)
    have hxy : x = y := by simpa using ht
    subst hxy
    refine cnd_dec (fun hlt => ?_) (fun _ => ⟨rfl, he⟩)
    rw [i64_id] at hlt <;> omega
  · rintro _ j w1 ⟨rfl, he⟩
    have h3 : IntKind.i64.wrap ((b.len : Int) + 3) = ((x.length + 3 : Nat) : Int) := by rw [i64_id] <;> omega
    rw [h3]
    refine ⟨by omega, by omega, fun n i w' => ∃ k : Nat, i = ((x.length + k : Nat) : Int) ∧ n = 3 - k ∧ w' = w1, ⟨_, 0, by rw [hbl]; rfl, rfl, rfl⟩, ?_⟩
    rintro n i j w' ⟨k, rfl, rfl, rfl⟩
    simp only [Int.toNat_natCast, Nat.sub_zero, subA_zero]
    refine cnd_dec (fun hlt => ?_) (fun hge => ⟨by simp, he⟩)
    have hk3 : k < 3 := by omega
    have hbk := (ho.ext he).blk
    rw [ho.a]
    refine ⟨by omega, by omega, c, ?_, ?_⟩
    · rw [add_mk, cell_blk hbk]
      have hl := B8_length x
      simp only [Nat.zero_add, Nat.mul_one, List.getElem?_toArray]
      rw [← hl, List.getElem?_append_right (by omega), show (B8 x).length + k - (B8 x).length = k by omega]
      match k, hk3 with
      | 0, _ => rfl
      | 1, _ => rfl
      | 2, _ => rfl
    · refine cnd_bne (fun h => absurd rfl h) (fun _ => ⟨_, ?_, k + 1, by rw [i64_id] <;> omega, rfl, trivial⟩)
      omega

/-! ### Spoil, Clone -/
theorem dunnagehelp_Spoil.spec {s : SV} {x : List UInt8} {w : World} {B : Nat} (hs : OwnB w B s x) (hx : x.length < 2 ^ 62) :
    CallT [] Try.prog F.dunnagehelp_Spoil [.slice s.a s.len s.cap] w fun _ w' => Upd s.blk w w' := by
  refine dunnagehelp_Spoil.vc s w _ ?_
  have hsl := hs.lenB
  refine ⟨fun n i w' => ∃ (k : Nat) (y : List UInt8), i = k ∧ n = x.length - k ∧ y.length = x.length ∧ OwnB w' B s y ∧ Upd s.blk w w', ⟨_, 0, x, rfl, rfl, rfl, hs, Upd.refl _ _⟩, ?_⟩
  rintro n i j w' ⟨k, y, rfl, rfl, hy, ho, hu⟩
  refine cnd_dec (fun hlt => ?_) (fun hge => hu)
  have hk : k < y.length := by omega
  refine ⟨by omega, by omega, SV.getB ho.rd hk fun A hA => ⟨(y[k]).toNat, ho.rd.cellB (List.getElem?_eq_getElem hk) hA, by omega, by omega, ?_⟩⟩
  rcases ho.is with ⟨h1, _⟩ | ⟨b, rest, ha, hB, hb, hcap, hle⟩
  · rw [h1] at hA; simp at hA
  · rw [ha] at hA ⊢
    obtain rfl := Option.some.inj hA
    have hkb : k < (B8 y ++ rest).length := by rw [List.length_append, B8_length]; omega
    simp only [onP_some, Int.toNat_natCast, Nat.mul_one, add_mk, Nat.zero_add]
    rw [cell_blk hb, frozen_blk hb]
    refine ⟨by simp; simp at hkb; omega, rfl, _, ?_, k + 1, y.set k (y[k] ^^^ 0x55), by rw [i64_id] <;> omega, rfl, by simp [hy], ?_, ?_⟩
    · omega
    · have hx2 : bxor .u8 ((y[k]).toNat : Int) 85 = ((y[k] ^^^ 0x55).toNat : Int) := by
        have := bxor_nat (k := .u8) rfl (a := (y[k]).toNat) (b := 85) (y[k]).toNat_lt (by decide)
        rw [UInt8.toNat_xor]; exact this
      rw [hx2]
      have hset : (B8 y ++ rest).set k (.int .u8 ((y[k] ^^^ 0x55).toNat : Int)) = B8 (y.set k (y[k] ^^^ 0x55)) ++ rest := by
        rw [List.set_append_left _ _ (by rw [B8_length]; exact hk)]
        simp [B8, List.map_set]
      refine ⟨by rw [B8_length, List.length_set, Nat.mul_one, hy, hsl], .inr ⟨b, rest, ha, hB, ?_, ?_, hle⟩⟩
      · rw [blk_set hb, List.setIfInBounds_toArray, hset]
      · rw [← hset, List.length_set]; exact hcap
    · exact hu.set (p := ⟨b, k, none⟩) (fun _ => ⟨_, ha, rfl⟩) _
theorem slices_Clone_byte_byte.spec {s : SV} {x : List UInt8} {w : World} (hs : RdB w s x) (hx : x.length ≤ 140737488351232) :
    CallT [.one .slice] Try.prog F.slices_Clone_byte_byte [.slice s.a s.len s.cap] w fun o w' => OwnB w' w.heap.size o x ∧ Ext w w' ∧ (s.a ≠ none → o.a ≠ none) := by
  refine slices_Clone_byte_byte.vc s w _ ?_
  have hsl := hs.lenB
  cases ha : s.a with
  | none =>
    have hx0 : x = [] := by have := hs.nil ha; rw [hsl] at this; exact List.eq_nil_of_length_eq_zero this
    subst hx0
    exact ⟨Own.nil _ _ _ _, Upd.refl _ _, fun h => absurd rfl h⟩
  | some A =>
    have h0 : OwnB (w.alloc (.cells #[] T.uint8)) w.heap.size ⟨some ⟨w.heap.size, 0, none⟩, 0, 0⟩ [] := Own.new w T.uint8 1 0 [] rfl
    have := app_rd (ty := T.sl_uint8) (K := fun s' w' => OwnB w' w.heap.size s' x ∧ Ext w w' ∧ (some A ≠ none → s'.a ≠ none)) (t := s) appB (ext_alloc w _) h0 (hs.ext (ext_alloc _ _)) (B8_one x) (fun hlt => ?_) ?_
    · rw [ha] at this; exact this
    · simp only [Nat.zero_add] at hlt ⊢
      rw [nextcap_zero hlt]; omega
    · intro s' w' ho hu _ hn
      exact ⟨ho, hu, fun _ => hn (.inl (by simp))⟩
end Go.Proofs
