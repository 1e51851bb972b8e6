/- crc and the document's sums: their contracts. Conditions: those of each contract. -/
import Derived.Test.YtbnnpnillppdhaaHelp
import Derived.Test.YtbnnpnillppdhaaCrcMath
import Derived.Lib.SlBytesConst
namespace Go.Proofs
open Go Go.Vc Go.Crc
theorem u32lt {n : Nat} (h : n < 2 ^ 32) : n < 2 ^ IntKind.u32.bits := h
theorem half_val {c : Nat} (hc : c < 2 ^ 32) : (c % 2 = 1 → bxor .u32 (shr .u32 (c : Int) 1) 2197175160 = ((half c : Nat) : Int)) ∧ (c % 2 ≠ 1 → shr .u32 (c : Int) 1 = ((half c : Nat) : Int)) ∧ band .u32 (c : Int) 1 = ((c % 2 : Nat) : Int) := by
  have h1 : shr .u32 (c : Int) 1 = ((c / 2 : Nat) : Int) := by
    have := shr_nat (k := .u32) (a := c) (b := 1) (by decide)
    simpa using this
  have h2 : band .u32 (c : Int) ((1 : Nat) : Int) = ((c &&& 1 : Nat) : Int) := band_nat rfl (u32lt hc) (by decide)
  have h3 : c &&& 1 = c % 2 := Nat.and_one_is_mod c
  have h4 : bxor .u32 ((c / 2 : Nat) : Int) ((P : Nat) : Int) = ((c / 2 ^^^ P : Nat) : Int) := bxor_nat rfl (u32lt (by omega)) (by decide)
  refine ⟨fun h => ?_, fun h => ?_, ?_⟩
  · rw [h1, half, if_pos h]; exact h4
  · rw [h1, half, if_neg h, Nat.xor_zero]
  · rw [← h3]; exact h2
theorem crc_half.spec {c : Nat} (hc : c < 2 ^ 32) (w : World) : CallT [.one (.int .u32)] Try.prog F.crc_half [.int .u32 c] w fun r w' => r = half c ∧ w = w' := by
  refine crc_half.vc c w _ ?_
  obtain ⟨h1, h2, h3⟩ := half_val hc
  rw [h3]
  refine cnd_bne (fun h => ⟨h1 (by omega), rfl⟩) (fun h => ⟨h2 (by omega), rfl⟩)
theorem dunnageref02_step.spec {c : Nat} (hc : c < 2 ^ 32) (w : World) : CallT [.one (.int .u32)] Try.prog F.dunnageref02_step [.int .u32 c] w fun r w' => r = half c ∧ w = w' := by
  refine dunnageref02_step.vc c w _ ?_
  obtain ⟨h1, h2, h3⟩ := half_val hc
  rw [h3]
  refine cnd_beq (fun h => ⟨h1 (by omega), rfl⟩) (fun h => ⟨h2 (by omega), rfl⟩)
theorem bx {a b : Nat} (ha : a < 2 ^ 32) (hb : b < 2 ^ 32) : bxor .u32 (a : Int) (b : Int) = ((a ^^^ b : Nat) : Int) := bxor_nat rfl (u32lt ha) (u32lt hb)
theorem dunnageref02_More.spec {w : World} {s : SV} {l : List UInt8} (hs : RdB w s l) (hl : l.length < 2 ^ 62) {n : Nat} (hn0 : n < 2 ^ 32) :
    CallT [.one (.int .u32)] Try.prog F.dunnageref02_More [.int .u32 n, .slice s.a s.len s.cap] w fun r w' => r = more n l ∧ w = w' := by
  refine dunnageref02_More.vc n s w _ ?_
  have hsl := hs.lenB
  have hM : n ^^^ M < 2 ^ 32 := Nat.xor_lt_two_pow hn0 (by decide)
  refine ⟨fun m x w' => ∃ i : Nat, x = (((raw (n ^^^ M) (l.take i) : Nat) : Int), (i : Int)) ∧ i ≤ l.length ∧ m = l.length - i ∧ w = w', ⟨_, 0, by rw [List.take_zero]; exact congrArg (·, (0 : Int)) (bx hn0 (by decide)), by omega, rfl, rfl⟩, ?_⟩
  rintro m _ j _ ⟨i, rfl, hi, rfl, rfl⟩
  dsimp only
  have hr := raw_lt (l.take i) hM
  refine cnd_dec (fun hlt => ?_) (fun hge => ?_)
  · have hil : i < l.length := by omega
    have hb := (l[i]).toNat_lt
    refine ⟨by omega, by omega, SV.getB hs hil fun A hA => ⟨(l[i]).toNat, hs.cellB (List.getElem?_eq_getElem hil) hA, ?_⟩⟩
    rw [u32_id (x := (l[i]).toNat) (by omega) (by omega), bx hr (by omega)]
    have hx : raw (n ^^^ M) (l.take i) ^^^ (l[i]).toNat < 2 ^ 32 := Nat.xor_lt_two_pow hr (by omega)
    refine ⟨fun q x w' => ∃ k : Nat, x = (((Crc.hn k (raw (n ^^^ M) (l.take i) ^^^ (l[i]).toNat) : Nat) : Int), (k : Int)) ∧ k ≤ 8 ∧ q = 8 - k ∧ w = w', ⟨_, 0, rfl, by omega, rfl, rfl⟩, ?_⟩
    rintro q _ j' _ ⟨k, rfl, hk, rfl, rfl⟩
    dsimp only
    refine cnd_dec (fun hlt' => ?_) (fun hge' => ?_)
    · refine CallT.mono (dunnageref02_step.spec (Crc.hn_lt k hx) _) ?_
      rintro _ _ ⟨rfl, rfl⟩
      exact ⟨8 - (k + 1), by omega, k + 1, by rw [i64_id (by omega) (by omega), ← Crc.hn_half, Crc.hn]; rfl, by omega, rfl, rfl⟩
    · have : k = 8 := by omega
      subst this
      exact ⟨_, by omega, i + 1, by rw [i64_id (by omega) (by omega), List.take_add_one, List.getElem?_eq_getElem hil, Option.toList_some, raw_snoc]; rfl, by omega, rfl, rfl⟩
  · have : i = l.length := by omega
    subst this
    rw [List.take_length] at hr ⊢
    exact ⟨bx hr (by decide), rfl⟩

def qT : List Value := (List.range 16).map fun k => .int .u32 (Crc.hn 4 k : Nat)
def qrow (i : Nat) : List Value := (List.range 16).map fun k => .int .u32 ((if k < i then Crc.hn 4 k else 0 : Nat) : Int)
theorem qrow_set (i : Nat) (h : i < 16) : (qrow i).set i (.int .u32 ((Crc.hn 4 i : Nat) : Int)) = qrow (i + 1) := by
  unfold qrow
  apply List.ext_getElem?
  intro k
  rw [List.getElem?_set]
  simp only [List.getElem?_map, List.length_map, List.length_range]
  by_cases hk : i = k
  · subst hk
    simp [h]
  · rw [if_neg hk]
    by_cases hk16 : k < 16
    · simp only [List.getElem?_range hk16, Option.map_some]
      congr 3
      by_cases hki : k < i
      · rw [if_pos hki, if_pos (by omega)]
      · rw [if_neg hki, if_neg (by omega)]
    · rw [List.getElem?_eq_none (by simp; omega)]; rfl
theorem qrow_get (i : Nat) (h : i < 16) : (qrow 16)[i]? = some (.int .u32 ((Crc.hn 4 i : Nat) : Int)) := by
  simp [qrow, h]
theorem nib {s : Nat} (hs : s < 2 ^ 32) : band .u32 (s : Int) 15 = ((s % 16 : Nat) : Int) := by
  have h2 : band .u32 (s : Int) ((15 : Nat) : Int) = ((s &&& 15 : Nat) : Int) := band_nat rfl (u32lt hs) (by decide)
  have h3 : s &&& 15 = s % 16 := Nat.and_two_pow_sub_one_eq_mod s 4
  rw [← h3]; exact h2
theorem shr4 {s : Nat} : shr .u32 (s : Int) 4 = ((s / 16 : Nat) : Int) := by
  have := shr_nat (k := .u32) (a := s) (b := 4) (by decide)
  simpa using this
theorem crc_More.spec {w : World} {s : SV} {l : List UInt8} (hs : RdB w s l) (hl : l.length < 2 ^ 62) {n : Nat} (hn0 : n < 2 ^ 32) :
    CallT [.one (.int .u32)] Try.prog F.crc_More [.int .u32 n, .slice s.a s.len s.cap] w fun r w' => r = more n l ∧ Ext w w' := by
  refine crc_More.vc n s w _ ?_
  have hsl := hs.lenB
  have hM : n ^^^ M < 2 ^ 32 := Nat.xor_lt_two_pow hn0 (by decide)
  refine ⟨fun m x w' => ∃ i : Nat, x = (i : Int) ∧ i ≤ 16 ∧ m = 16 - i ∧ Ext w w' ∧ w'.heap[w.heap.size]? = some (.cells (qrow i).toArray T.a16_uint32 (0, 0)), ⟨_, 0, rfl, by omega, rfl, ext_alloc _ _, blk_new _ _⟩, ?_⟩
  rintro m _ j w1 ⟨i, rfl, hi, rfl, he, hb⟩
  refine cnd_dec (fun hlt => ?_) (fun hge => ?_)
  · have hi16 : i < 16 := by omega
    refine ⟨fun q x w' => ∃ k : Nat, x = (((Crc.hn k i : Nat) : Int), (k : Int)) ∧ k ≤ 4 ∧ q = 4 - k ∧ w1 = w', ⟨_, 0, by rw [u32_id (by omega) (by omega)]; rfl, by omega, rfl, rfl⟩, ?_⟩
    rintro q _ j' _ ⟨k, rfl, hk, rfl, rfl⟩
    dsimp only
    refine cnd_dec (fun hlt' => ?_) (fun hge' => ?_)
    · refine CallT.mono (crc_half.spec (Crc.hn_lt k (by omega)) _) ?_
      rintro _ _ ⟨rfl, rfl⟩
      exact ⟨4 - (k + 1), by omega, k + 1, by rw [i64_id (by omega) (by omega), ← Crc.hn_half, Crc.hn]; rfl, by omega, rfl, rfl⟩
    · have : k = 4 := by omega
      subst this
      simp only [Int.toNat_natCast, Nat.mul_one, add_mk, Nat.zero_add]
      refine ⟨by omega, by omega, set_ok hb (by simp [qrow]; omega) ⟨16 - (i + 1), by omega, i + 1, by rw [i64_id (by omega) (by omega)]; rfl, by omega, rfl, ?_, ?_⟩⟩
      · exact he.set (p := ⟨w.heap.size, i, none⟩) (fun h => by simp at h) _
      · rw [blk_set hb, List.setIfInBounds_toArray, qrow_set i hi16]
  · have : i = 16 := by omega
    subst this
    have hmax : (if IntKind.u32.signed = true then (-1 : Int) else IntKind.u32.max) = ((M : Nat) : Int) := rfl
    rw [hmax, bx (a := M) (b := n) (by decide) hn0, Nat.xor_comm]
    have hq : ∀ k, k < 16 → w1.cell? ⟨w.heap.size, k, none⟩ = some (.int .u32 ((Crc.hn 4 k : Nat) : Int)) := fun k hk => by
      rw [cell_blk hb, List.getElem?_toArray, qrow_get k hk]
    refine ⟨fun m x w' => ∃ i : Nat, x = (((raw (n ^^^ M) (l.take i) : Nat) : Int), (i : Int)) ∧ i ≤ l.length ∧ m = l.length - i ∧ w1 = w', ⟨_, 0, rfl, by omega, rfl, rfl⟩, ?_⟩
    rintro m _ j _ ⟨i, rfl, hi, rfl, rfl⟩
    dsimp only
    have hr := raw_lt (l.take i) hM
    refine cnd_dec (fun hlt => ?_) (fun hge => ?_)
    · have hil : i < l.length := by omega
      have hbt := (l[i]).toNat_lt
      refine ⟨by omega, by omega, SV.getB hs hil fun A hA => ⟨(l[i]).toNat, (hs.ext he).cellB (List.getElem?_eq_getElem hil) hA, ?_⟩⟩
      have hx : raw (n ^^^ M) (l.take i) ^^^ (l[i]).toNat < 2 ^ 32 := Nat.xor_lt_two_pow hr (by omega)
      have hsn : raw (n ^^^ M) (l.take (i + 1)) = Crc.hn 8 (raw (n ^^^ M) (l.take i) ^^^ (l[i]).toNat) := by
        rw [List.take_add_one, List.getElem?_eq_getElem hil, Option.toList_some, raw_snoc]
      rw [u32_id (x := (l[i]).toNat) (by omega) (by omega), bx hr (by omega)]
      generalize raw (n ^^^ M) (l.take i) ^^^ (l[i]).toNat = c at hx hsn
      have h16 : ∀ c : Nat, c < 2 ^ 32 → Crc.hn 4 (c % 16) < 2 ^ 32 := fun c _ => Crc.hn_lt 4 (by omega)
      rw [nib hx, shr4]
      simp only [Int.toNat_natCast, Nat.mul_one, add_mk, Nat.zero_add]
      refine ⟨by omega, by omega, _, hq _ (by omega), ?_⟩
      rw [bx (a := c / 16) (by omega) (h16 c hx), ← Crc.hn4 hx]
      have hx2 := Crc.hn_lt 4 hx
      rw [nib hx2, shr4]
      simp only [Int.toNat_natCast]
      refine ⟨by omega, by omega, _, hq _ (by omega), ?_⟩
      rw [bx (a := Crc.hn 4 c / 16) (by omega) (h16 _ hx2), ← Crc.hn4 hx2, ← Crc.hn_add]
      exact ⟨l.length - (i + 1), by omega, i + 1, by rw [i64_id (by omega) (by omega), hsn]; rfl, by omega, rfl, trivial⟩
    · have : i = l.length := by omega
      subst this
      rw [List.take_length] at hr ⊢
      exact ⟨by rw [bx (by decide) hr, Nat.xor_comm]; rfl, he⟩
theorem crc_Sum.spec {w : World} {s : SV} {l : List UInt8} (hs : RdB w s l) (hl : l.length < 2 ^ 62) :
    CallT [.one (.int .u32)] Try.prog F.crc_Sum [.slice s.a s.len s.cap] w fun r w' => r = more 0 l ∧ Ext w w' := by
  refine crc_Sum.vc s w _ ?_
  have c := crc_More.spec hs hl (n := 0) (by decide)
  exact CallT.mono c fun _ _ h => h
theorem dunnageref02_Sum.spec {w : World} {s : SV} {l : List UInt8} (hs : RdB w s l) (hl : l.length < 2 ^ 62) :
    CallT [.one (.int .u32)] Try.prog F.dunnageref02_Sum [.slice s.a s.len s.cap] w fun r w' => r = more 0 l ∧ w = w' := by
  refine dunnageref02_Sum.vc s w _ ?_
  have c := dunnageref02_More.spec hs hl (n := 0) (by decide)
  exact CallT.mono c fun _ _ h => h
theorem more_nine : more 0 [49, 50, 51, 52, 53, 54, 55, 56, 57] = 3808858755 := by decide +kernel
theorem dunnagelaw02_awake.spec (w : World) : CallT [.one .bool] Try.prog F.dunnagelaw02_awake [] w fun r w' => r = true ∧ Ext w w' := by
  refine dunnagelaw02_awake.vc w _ ?_
  refine ⟨⟨some ⟨w.heap.size, 0, none⟩, 9, 9⟩, _, Go.Lib.run_convert_bytes_const (P := Try.prog) w T.sl_uint8 T.uint8 _ 9 9 sl_u8 (by kernel_rfl), ?_⟩
  have he := ext_alloc w (.cells #[.int .u8 49, .int .u8 50, .int .u8 51, .int .u8 52, .int .u8 53, .int .u8 54, .int .u8 55, .int .u8 56, .int .u8 57] T.uint8 (9, 10))
  have hb := blk_new w (.cells #[.int .u8 49, .int .u8 50, .int .u8 51, .int .u8 52, .int .u8 53, .int .u8 54, .int .u8 55, .int .u8 56, .int .u8 57] T.uint8 (9, 10))
  have hrd : RdB (w.alloc (.cells #[.int .u8 49, .int .u8 50, .int .u8 51, .int .u8 52, .int .u8 53, .int .u8 54, .int .u8 55, .int .u8 56, .int .u8 57] T.uint8 (9, 10))) ⟨some ⟨w.heap.size, 0, none⟩, 9, 9⟩ [49, 50, 51, 52, 53, 54, 55, 56, 57] := by
    refine ⟨rfl, fun h => by simp at h, fun A hA => ?_⟩
    obtain rfl := Option.some.inj hA
    exact cellsAt_blk hb fun j v hv => by simpa [B8] using hv
  have c1 := crc_Sum.spec hrd (by decide)
  refine CallT.mono c1 ?_
  rintro _ w1 ⟨rfl, e1⟩
  rw [more_nine]
  refine cnd_pos rfl ?_
  have c2 := crc_Sum.spec (w := w1) (s := ⟨none, 0, 0⟩) (l := []) (Rd.nil' _ _ _) (by decide)
  refine CallT.mono c2 ?_
  rintro _ w2 ⟨rfl, e2⟩
  exact ⟨rfl, (he.tr e1).tr e2⟩
end Go.Proofs
