/- dunnageref02.Turn, and what the statements of chapter 02 hold bytes and their sums against. Conditions: those of each contract. -/
import Derived.Test.YtbnnpnillppdhaaCrcTurnMath
namespace Go.Proofs
open Go Go.Vc Go.Crc
def I64 (l : List Int) : List Value := l.map (Value.int .i64)
abbrev RdI (w : World) (s : SV) (l : List Int) : Prop := Rd w 1 s (I64 l)
theorem _root_.Go.Vc.Rd.lenI {w : World} {s : SV} {l : List Int} (h : RdI w s l) : s.len = l.length := by have := h.len; simp [I64] at this; exact this.symm
theorem _root_.Go.Vc.Rd.cellI {w : World} {s : SV} {l : List Int} (h : RdI w s l) {i : Nat} {b : Int} (hb : l[i]? = some b) {A : Addr} (hA : s.a = some A) : w.cell? (A.add (i * 1)) = some (.int .i64 b) := by
  rw [Nat.mul_one]; exact h.at_ A hA i _ (by simp [I64, hb])
theorem SV.getI {w : World} {s : SV} {l : List Int} (h : RdI w s l) {i : Nat} (hi : i < l.length) {K : Addr → Prop} (hk : ∀ A, s.a = some A → K A) : onP s.a K := by
  cases hA : s.a with
  | none => have := h.nil hA; rw [h.lenI] at this; omega
  | some A => exact hk A hA
theorem turns_take {l : List UInt8} {ks : List Int} {i : Nat} {k : Int} (h : ks[i]? = some k) : turns l (ks.take (i + 1)) = turn1 (turns l (ks.take i)) k := by
  rw [List.take_add_one, h, Option.toList_some]; simp [turns, List.foldl_append]
theorem dunnageref02_Turn.spec {w : World} {s t : SV} {l : List UInt8} {ks : List Int} (hs : RdB w s l) (ht : RdI w t ks) (hl : l.length ≤ 140737488351232) (hk : ks.length < 2 ^ 62) (hr : ∀ k ∈ ks, -9223372036854775808 ≤ k ∧ k ≤ 9223372036854775807) :
    CallT [.one .slice] Try.prog F.dunnageref02_Turn [.slice s.a s.len s.cap, .slice t.a t.len t.cap] w fun o w' => OwnB w' w.heap.size o (turns l ks) ∧ Ext w w' := by
  refine dunnageref02_Turn.vc s t w _ ?_
  have hsl := hs.lenB
  have htl := ht.lenI
  refine app_rd (s := ⟨none, 0, 0⟩) (cs := []) appB (Upd.refl (fun _ => False) _) (Own.nil _ _ _ _) hs (B8_one _) (fun hlt => by simp only [Nat.zero_add] at hlt ⊢; rw [nextcap_zero hlt]; omega) ?_
  intro o w1 ho e1 _ _
  have ho : OwnB w1 w.heap.size o l := ho
  have hol := ho.lenB
  refine ⟨fun n x w' => ∃ i : Nat, x = (i : Int) ∧ i ≤ ks.length ∧ n = ks.length - i ∧ OwnB w' w.heap.size o (turns l (ks.take i)) ∧ Ext w w', ⟨_, 0, rfl, by omega, rfl, ho, e1⟩, ?_⟩
  rintro n _ j w2 ⟨i, rfl, hi, rfl, hown, he⟩
  refine cnd_dec (fun hlt => ?_) (fun hge => ?_)
  · have hik : i < ks.length := by omega
    have hx : ks[i]? = some ks[i] := List.getElem?_eq_getElem hik
    have hrk := hr _ (List.getElem_mem hik)
    have hT := turns_take (l := l) hx
    have hlen : (turns l (ks.take i)).length = l.length := turns_len _ _
    generalize ks[i] = k at hx hrk hT
    have hw : IntKind.i64.wrap ((i : Int) + 1) = ((i + 1 : Nat) : Int) := by rw [i64_id] <;> omega
    have ht2 := ht.ext he
    refine ⟨fun b w' => w2 = w' ∧ b = decide (0 ≤ k ∧ k / 8 < l.length), ⟨by omega, by omega, SV.getI ht hik fun A hA => ⟨k, ht2.cellI hx hA, ?_⟩⟩, ?_⟩
    · refine cnd_dec (fun hk0 => ?_) (fun hneg => ⟨rfl, by simp; omega⟩)
      refine ⟨by omega, by omega, SV.getI ht hik fun A hA => ⟨k, ht2.cellI hx hA, rfl, ?_⟩⟩
      rw [Int.tdiv_eq_ediv_of_nonneg hk0, i64_id (by omega) (by omega), hol]
      simp [hk0]
    · rintro _ _ _ ⟨rfl, rfl⟩
      refine cnd_dec (fun hin => ?_) (fun hout => ?_)
      · obtain ⟨q, rfl⟩ : ∃ q : Nat, k = q := ⟨k.toNat, by omega⟩
        have hq : q / 8 < (turns l (ks.take i)).length := by omega
        have hdiv : IntKind.i64.wrap ((q : Int).tdiv 8) = ((q / 8 : Nat) : Int) := by rw [Int.tdiv_eq_ediv_of_nonneg (by omega), i64_id] <;> omega
        have hmod : IntKind.u64.wrap ((q : Int).tmod 8) = ((q % 8 : Nat) : Int) := by rw [Int.tmod_eq_emod_of_nonneg (by omega), u64_id] <;> omega
        have htd := ht2.drew
        have hod : OwnB w2.drew w.heap.size o (turns l (ks.take i)) := hown.ext (ext_drew _)
        refine ⟨by omega, by omega, SV.getI ht hik fun A hA => ⟨_, htd.cellI hx hA, by omega, by omega, SV.getI ht hik fun A hA => ⟨_, htd.cellI hx hA, ?_⟩⟩⟩
        rw [hdiv]
        refine ⟨by omega, by omega, SV.getB hod.rd hq fun A hA => ⟨_, by rw [Int.toNat_natCast]; exact hod.rd.cellB (List.getElem?_eq_getElem hq) hA, by omega, by omega, SV.getI ht hik fun A' hA' => ⟨_, htd.cellI hx hA', ?_⟩⟩⟩
        rw [hmod, Int.toNat_natCast]
        refine ⟨by omega, by omega, by omega, ?_⟩
        have hsh : shl .u8 1 ((q % 8 : Nat) : Int) = ((2 ^ (q % 8) : Nat) : Int) := by
          have := shl_nat (k := .u8) (a := 1) (b := q % 8) rfl (by simp only [IntKind.bits]; omega)
          rw [Nat.one_mul, Nat.mod_eq_of_lt (Nat.pow_lt_pow_right (by decide) (by simp only [IntKind.bits]; omega))] at this
          exact this
        have h3 : (UInt8.ofNat (2 ^ (q % 8))).toNat = 2 ^ (q % 8) := by
          rw [UInt8.toNat_ofNat']
          exact Nat.mod_eq_of_lt (Nat.pow_lt_pow_right (by decide) (by omega))
        have hbx : bxor .u8 (((turns l (ks.take i))[q / 8]).toNat : Int) ((2 ^ (q % 8) : Nat) : Int) = ((((turns l (ks.take i))[q / 8]) ^^^ UInt8.ofNat (2 ^ (q % 8))).toNat : Int) := by
          rw [UInt8.toNat_xor, h3]
          exact bxor_nat (k := .u8) rfl (UInt8.toNat_lt _) (Nat.pow_lt_pow_right (by decide) (show q % 8 < 8 by omega))
        rw [hsh, hbx]
        have hT' : turns l (ks.take (i + 1)) = (turns l (ks.take i)).set (q / 8) ((turns l (ks.take i))[q / 8] ^^^ UInt8.ofNat (2 ^ (q % 8))) := by
          rw [hT, turn1, if_pos ⟨by omega, by omega⟩]
          have h1 : ((q : Int) / 8).toNat = q / 8 := by omega
          have h2 : ((q : Int) % 8).toNat = q % 8 := by omega
          rw [h1, h2]
          simp [List.getD, hq]
        rcases hod.is with ⟨h1, _⟩ | ⟨b, rest, ha, hB, hb, hcap, hle⟩
        · rw [h1] at hA; simp at hA
        · rw [ha]
          have hkb : q / 8 < (B8 (turns l (ks.take i)) ++ rest).length := by rw [List.length_append, B8_length]; omega
          simp only [onP_some, Nat.mul_one, add_mk, Nat.zero_add]
          refine set_ok hb (by simpa using hkb) ⟨ks.length - (i + 1), by omega, i + 1, hw, by omega, rfl, ?_, he.drew.set (p := ⟨b, q / 8, none⟩) (fun h => by simp only at h; omega) _⟩
          have hset : ∀ v : UInt8, (B8 (turns l (ks.take i)) ++ rest).set (q / 8) (.int .u8 (v.toNat : Int)) = B8 ((turns l (ks.take i)).set (q / 8) v) ++ rest := fun v => by
            rw [List.set_append_left _ _ (by rw [B8_length]; exact hq)]
            simp [B8, List.map_set]
          rw [hT']
          refine ⟨by rw [B8_length, List.length_set, Nat.mul_one, hlen, hol], .inr ⟨b, rest, ha, hB, ?_, ?_, hle⟩⟩
          · rw [blk_set hb, List.setIfInBounds_toArray, hset]
          · rw [← hset, List.length_set]; exact hcap
      · refine ⟨ks.length - (i + 1), by omega, i + 1, hw, by omega, rfl, ?_, he⟩
        rw [hT, turn1, if_neg (by rwa [hlen])]
        exact hown
  · have : i = ks.length := by omega
    subst this
    rw [List.take_length] at hown
    exact ⟨hown, he⟩
theorem dunnagelaw02_behind.spec {w : World} {s : SV} {l : List UInt8} (hs : RdB w s l) (hl : l.length ≤ 1048576) :
    CallT [.one .slice] Try.prog F.dunnagelaw02_behind [.slice s.a s.len s.cap] w fun o w' => OwnB w' w.heap.size o (behindB l) ∧ Ext w w' := by
  refine dunnagelaw02_behind.vc s w _ ?_
  have hsl := hs.lenB
  refine CallT.mono (crc_Sum.spec hs (by omega)) ?_
  rintro _ w1 ⟨rfl, e1⟩
  refine app_rd (w0 := w) (s := ⟨none, 0, 0⟩) (cs := []) appB e1 (Own.nil _ _ _ _) (hs.ext e1) (B8_one _) (fun hlt => by simp only [Nat.zero_add] at hlt ⊢; rw [nextcap_zero hlt]; omega) ?_
  intro o w2 ho e2 hl2 _
  simp only [Nat.zero_add] at hl2
  have hml := more_lt (s := 0) (by decide) l
  have hvs : [Value.int .u8 (IntKind.u8.wrap ((more 0 l : Nat) : Int)), .int .u8 (IntKind.u8.wrap (shr .u32 ((more 0 l : Nat) : Int) 8)), .int .u8 (IntKind.u8.wrap (shr .u32 ((more 0 l : Nat) : Int) 16)), .int .u8 (IntKind.u8.wrap (shr .u32 ((more 0 l : Nat) : Int) 24))] = B8 (leB 4 (more 0 l)) := by
    have h1 : ∀ b, b ≤ 32 → shr .u32 ((more 0 l : Nat) : Int) ((b : Nat) : Int) = ((more 0 l / 2 ^ b : Nat) : Int) := fun b hb => shr_nat (k := .u32) hb
    have h8 : shr .u32 ((more 0 l : Nat) : Int) 8 = ((more 0 l / 2 ^ 8 : Nat) : Int) := h1 8 (by decide)
    have h16 : shr .u32 ((more 0 l : Nat) : Int) 16 = ((more 0 l / 2 ^ 16 : Nat) : Int) := h1 16 (by decide)
    have h24 : shr .u32 ((more 0 l : Nat) : Int) 24 = ((more 0 l / 2 ^ 24 : Nat) : Int) := h1 24 (by decide)
    rw [h8, h16, h24, u8_of, u8_of, u8_of, u8_of]
    simp [B8, leB, List.range_succ]
  rw [show (Obj.cells #[Value.int .u8 (IntKind.u8.wrap ((more 0 l : Nat) : Int)), .int .u8 (IntKind.u8.wrap (shr .u32 ((more 0 l : Nat) : Int) 8)), .int .u8 (IntKind.u8.wrap (shr .u32 ((more 0 l : Nat) : Int) 16)), .int .u8 (IntKind.u8.wrap (shr .u32 ((more 0 l : Nat) : Int) 24))] (5 : Nat)) = Obj.cells (B8 (leB 4 (more 0 l))).toArray T.uint8 by rw [← hvs]]
  refine app_new appB e2 ho (by rw [B8_length, leB_len]) (B8_one _) (by omega) ?_
  intro s' w3 ho3 e3 _ _
  refine ⟨?_, e3⟩
  rw [OwnB, behindB, B8_append]; exact ho3
theorem dunnagelaw02_right.spec {w : World} {s : SV} {x : List UInt8} (hs : RdB w s x) (hc : s.len ≤ s.cap) (hl : x.length ≤ 1048576) :
    CallT [.one .bool] Try.prog F.dunnagelaw02_right [.slice s.a s.len s.cap] w fun r w' => r = rightB x ∧ Ext w w' := by
  refine dunnagelaw02_right.vc s w _ ?_
  have hsl := hs.lenB
  refine cnd_dec (fun hlt => ⟨by rw [rightB, if_pos (by omega)], Upd.refl _ _⟩) (fun hge => ?_)
  have hw : IntKind.i64.wrap ((s.len : Int) - 4) = ((x.length - 4 : Nat) : Int) := by rw [i64_id] <;> omega
  rw [hw]
  refine ⟨by omega, by omega, ?_⟩
  simp only [Int.toNat_natCast]
  have hsub := hs.subB hc (i := 0) (j := x.length - 4) (by omega) (by omega)
  have c1 := dunnagelaw02_behind.spec hsub (by rw [List.length_take, List.length_drop]; omega)
  refine CallT.mono c1 ?_
  rintro o w1 ⟨ho, e1⟩
  have c2 := dunnagehelp_Bytes.spec ho.rd (hs.ext e1)
  refine CallT.mono c2 ?_
  rintro _ _ ⟨rfl, rfl⟩
  refine ⟨?_, e1⟩
  rw [rightB, if_neg (by omega)]
  simp
end Go.Proofs
