/- Texts that the claim leans on, one behind the other: each begins with a sentence of its own. Conditions: those that each names. -/
import Derived.Below
import Derived.ChangeOld
import Derived.Deep.Quiet
import Derived.KernelRfl
import Derived.Laws.Cells
import Derived.Laws.Entries
import Derived.Laws.Sem
import Derived.Laws.Strings
import Derived.Laws.World
import Derived.Lib.SlBytesConst
import Derived.OpenShut
import Derived.Orders
import Derived.OrdersHeld
import Derived.ProofKit
import Derived.ShutString
import Derived.SizedLaws
import Derived.StillTail
import Derived.Tactics
import Derived.Test.YtinolellciikoaaProg
import Derived.Test.YtinolellciikoaaRows
import Derived.Test.YtinolellciikoaaPkM5
/- sector.Open, the document's Seal and Open. Conditions: those of each contract. -/
namespace Go.Proofs
open Go Go.Vc Go.Crc
@[reducible] def secV (x : Int × Int × SV) : List Value := [.int .u8 x.1, .int .u64 x.2.1, .slice x.2.2.a x.2.2.len x.2.2.cap]
@[reducible] def zSec : List Value := [.int .u8 0, .int .u64 0, .slice none 0 0]
def SecAns (R : SecR) (w : World) (r : (Int × Int × SV) × Int) (w' : World) : Prop :=
  r.1.1 = (R.1.1.toNat : Int) ∧ r.1.2.1 = (R.1.2.1 : Int) ∧ NewB w w' r.1.2.2 R.1.2.2 ∧ r.2 = R.2 ∧ Ext w w'
theorem right_get {b : List UInt8} (h : b.length = 512) : rightB b = true ↔ leV ((b.drop 508).take 4) = more 0 (b.take 508) := by
  have hq : (b.drop 508).length = 4 := by rw [List.length_drop]; omega
  have hml := more_lt (s := 0) (by decide) (b.take 508)
  have ht4 : (b.drop 508).take 4 = b.drop 508 := List.take_of_length_le (by omega)
  rw [rightB, if_neg (by omega), show b.length - 4 = 508 by omega, beq_iff_eq, behindB, ht4]
  conv => lhs; rhs; rw [← List.take_append_drop 508 b]
  rw [List.append_right_inj]
  constructor
  · intro h1
    rw [← h1, leV_leB, Nat.mod_eq_of_lt hml]
  · intro h1
    have := leB_leV (b.drop 508)
    rw [hq] at this
    rw [← h1, this]
theorem getB_ok {b : List UInt8} (h : b.length = 512) {a n : Nat} (hn : 1 ≤ n ∧ n ≤ 8) (ha : a + n ≤ 512) : getB b (a : Int) (n : Int) = (((leV ((b.drop a).take n) : Nat) : Int), 0) := by
  rw [getB, if_neg (by omega), if_neg (by omega)]; simp
theorem leV_take_lt (l : List UInt8) (n : Nat) : leV (l.take n) < 256 ^ n := by
  have h1 := leV_lt (l.take n)
  have h2 : (l.take n).length ≤ n := by simp; omega
  exact Nat.lt_of_lt_of_le h1 (Nat.pow_le_pow_right (by decide) h2)
def Bad (b : List UInt8) : Prop := knownK (b.getD 0 0) = false ∨ b.getD 1 0 ≠ 0 ∨ 496 < leV ((b.drop 2).take 2) ∨ allZ ((b.drop (12 + leV ((b.drop 2).take 2))).take (496 - leV ((b.drop 2).take 2))) = false
theorem openR_len {b : List UInt8} (h : b.length ≠ 512) : openR b = ((0, 0, []), 1) := by rw [openR, if_pos h]
theorem openR_zero {b : List UInt8} (h : b.length = 512) (hz : allZ b = true) : openR b = ((0, 0, []), 0) := by rw [openR, if_neg (by omega), if_pos hz]
theorem openR_sum {b : List UInt8} (h : b.length = 512) (hz : allZ b = false) (hr : rightB b = false) : openR b = ((0, 0, []), 30) := by rw [openR, if_neg (by omega), if_neg (by rw [hz]; simp), if_pos hr]
theorem openR_bad {b : List UInt8} (h : b.length = 512) (hz : allZ b = false) (hr : rightB b = true) (hb : Bad b) : openR b = ((0, 0, []), 11) := by rw [openR, if_neg (by omega), if_neg (by rw [hz]; simp), if_neg (by rw [hr]; simp)]; exact if_pos hb
theorem openR_ok {b : List UInt8} (h : b.length = 512) (hz : allZ b = false) (hr : rightB b = true) (hb : ¬ Bad b) : openR b = ((b.getD 0 0, leV ((b.drop 4).take 8), (b.drop 12).take (leV ((b.drop 2).take 2))), 0) := by
  rw [openR, if_neg (by omega), if_neg (by rw [hz]; simp), if_neg (by rw [hr]; simp)]; exact if_neg hb
/-- The answer is put into the result's variable. -/
theorem sec_out {w w' : World} {R : SecR} {b : Nat} {q : SV} {k t code : Int} (hb : BK w' b T.api_Sector zSec) (he : Ext w w') (hw : w.heap.size ≤ b) (hq : NewB w w' q R.1.2.2) (hne : ∀ c, q.blk c → c ≠ b) (h1 : k = (R.1.1.toNat : Int)) (h2 : t = (R.1.2.1 : Int)) (h3 : code = R.2) :
    canSt w' ⟨b, 0, none⟩ 3 ∧ ∃ x : Int × Int × SV, cellsAt (setCells w' ⟨b, 0, none⟩ 0 (secV (k, t, q))) ⟨b, 0, none⟩ (secV x) ∧ SecAns R w ((x.1, x.2.1, x.2.2), code) (setCells w' ⟨b, 0, none⟩ 0 (secV (k, t, q))) := by
  have u : Upd (fun x => x = b) w' (setCells w' ⟨b, 0, none⟩ 0 (secV (k, t, q))) := (Upd.refl (fun x => x = b) w').setCells (p := ⟨b, 0, none⟩) (fun _ => rfl) 0 _
  generalize hd : setCells w' _ 0 _ = w2 at *
  obtain ⟨c, b2, e2, z2, _⟩ := bk_put (us := secV (k, t, q)) hb he hw hd rfl
  exact ⟨c, (k, t, q), b2.all, h1, h2, hq.upd u hne, h3, e2⟩
theorem sec_err {w w' : World} {b : Nat} {code : Int} (hb : BK w' b T.api_Sector zSec) (he : Ext w w') (hw : w.heap.size ≤ b) :
    canSt w' ⟨b, 0, none⟩ 3 ∧ ∃ x : Int × Int × SV, cellsAt (setCells w' ⟨b, 0, none⟩ 0 [.int .u8 0, .int .u64 0, .slice none 0 0]) ⟨b, 0, none⟩ [.int .u8 x.1, .int .u64 x.2.1, .slice x.2.2.a x.2.2.len x.2.2.cap] ∧ SecAns ((0, 0, []), code) w ((x.1, x.2.1, x.2.2), code) (setCells w' ⟨b, 0, none⟩ 0 [.int .u8 0, .int .u64 0, .slice none 0 0]) :=
  sec_out (R := ((0, 0, []), code)) (k := 0) (t := 0) (q := ⟨none, 0, 0⟩) hb he hw (NewB.nil _ _) (fun c h => by obtain ⟨A, hA, _⟩ := h; simp at hA) (by simp) (by simp) rfl
set_option maxRecDepth 100000 in
theorem sector_Open.spec {w : World} {s : SV} {b : List UInt8} (hb : RdB w s b) (hc : s.len ≤ s.cap) (_hl : b.length ≤ 140737488351232) :
    CallT [.agg [.int .u8, .int .u64, .slice], .one (.int .i64)] Try.prog F.sector_Open [.slice s.a s.len s.cap] w fun r w' => SecAns (openR b) w r w' := by
  refine sector_Open.vc s w _ ?_
  have hsl := hb.lenB
  generalize hc1 : w.alloc _ = w1
  obtain ⟨b1, e1, z1⟩ := bk_new (T := T.api_Sector) (vs := zSec) hc1
  dsimp only
  refine cnd_bne (fun hne => ?_) (fun h512 => ?_)
  · rw [openR_len (by omega)]
    exact sec_err b1 e1 (Nat.le_refl _)
  have h512 : b.length = 512 := by omega
  refine CallT.mono (word_Zero.spec (hb.ext e1) (by omega)) ?_
  rintro _ w2 ⟨rfl, e2⟩
  have b2 := b1.ext e2
  have e02 := e1.tr e2
  cases hz : allZ b with
  | true =>
    refine cnd_pos rfl ?_
    rw [openR_zero h512 hz]
    exact sec_err b2 e02 (Nat.le_refl _)
  | false =>
  refine cnd_neg rfl ?_
  refine CallT.mono (word_Get.spec (hb.ext e02) hc (by omega) (a := 508) (n := 4) (by decide) (by decide)) ?_
  rintro _ w3 ⟨rfl, e3⟩
  rw [show getB b 508 4 = _ from getB_ok h512 (a := 508) (n := 4) (by decide) (by decide)]
  have e03 := e02.tr e3
  refine ⟨by decide, by omega, ?_⟩
  have hr := (hb.ext e03).subB hc (i := 0) (j := 508) (by decide) (by omega)
  rw [List.drop_zero] at hr
  refine CallT.mono (crc_Sum.spec hr (by simp; omega)) ?_
  rintro _ w4 ⟨rfl, e4⟩
  have e04 := e03.tr e4
  have b4 := (b2.ext e3).ext e4
  have hml := more_lt (s := 0) (by decide) (b.take 508)
  have hw : IntKind.u64.wrap ((more 0 (b.take (508 - 0)) : Nat) : Int) = ((more 0 (b.take 508) : Nat) : Int) := by rw [u64_mod]; simp only [Nat.sub_zero]; omega
  dsimp only
  rw [hw]
  refine cnd_bne (fun hne => ?_) (fun heq => ?_)
  · have hrf : rightB b = false := by
      cases hh : rightB b with
      | false => rfl
      | true => exact absurd (by rw [(right_get h512).1 hh]) hne
    rw [openR_sum h512 hz hrf]
    exact sec_err b4 e04 (Nat.le_refl _)
  have hrt : rightB b = true := (right_get h512).2 (by omega)
  refine CallT.mono (word_Get.spec (hb.ext e04) hc (by omega) (a := 2) (n := 2) (by decide) (by decide)) ?_
  rintro _ w5 ⟨rfl, e5⟩
  rw [show getB b 2 2 = _ from getB_ok h512 (a := 2) (n := 2) (by decide) (by decide)]
  have e05 := e04.tr e5
  have b5 := b4.ext e5
  have hb5 := hb.ext e05
  have hn2 := leV_take_lt (b.drop 2) 2
  have hB : ∀ P : Prop, (knownK (b.getD 0 0) = false → P) → (b.getD 1 0 ≠ 0 → P) → (496 < leV ((b.drop 2).take 2) → P) → (allZ ((b.drop (12 + leV ((b.drop 2).take 2))).take (496 - leV ((b.drop 2).take 2))) = false → P) → Bad b → P := fun P p1 p2 p3 p4 h => by
    rcases h with h | h | h | h
    · exact p1 h
    · exact p2 h
    · exact p3 h
    · exact p4 h
  have hBi : ∀ {P : Prop}, (P → Bad b) → P → Bad b := fun h => h
  have g0 : b[0]? = some (b.getD 0 0) := by rw [List.getD_eq_getElem?_getD, List.getElem?_eq_getElem (by omega)]; rfl
  have g1 : b[1]? = some (b.getD 1 0) := by rw [List.getD_eq_getElem?_getD, List.getElem?_eq_getElem (by omega)]; rfl
  have hbad : Bad b ↔ (knownK (b.getD 0 0) = false ∨ b.getD 1 0 ≠ 0 ∨ 496 < leV ((b.drop 2).take 2) ∨ allZ ((b.drop (12 + leV ((b.drop 2).take 2))).take (496 - leV ((b.drop 2).take 2))) = false) := Iff.rfl
  have hok := openR_ok h512 hz hrt
  have hno := openR_bad h512 hz hrt
  generalize b.getD 0 0 = k0 at *
  generalize b.getD 1 0 = k1 at *
  generalize leV ((b.drop 2).take 2) = n at *
  generalize Bad b = G at *
  have hwn : n ≤ 496 → IntKind.u64.wrap (12 + (n : Int)) = ((12 + n : Nat) : Int) := fun h => by rw [u64_mod]; omega
  refine ⟨fun _ w' => BK w' w.heap.size T.api_Sector zSec ∧ Ext w w' ∧ ¬ G, ⟨fun x w' => BK w' w.heap.size T.api_Sector zSec ∧ Ext w w' ∧ (x = true ↔ G), ⟨by decide, by omega, SV.getB hb5 (i := 0) (by omega) fun A hA => ⟨(k0.toNat : Int), hb5.cellB g0 hA, CallT.mono (sector_Known.spec k0 w5) ?_⟩⟩, ?_⟩, ?_⟩
  · rintro _ _ ⟨rfl, rfl⟩
    refine cnd_not (fun hk => ⟨b5, e05, by rw [hbad]; simp [hk]⟩) (fun hk => ⟨by decide, by omega, SV.getB hb5 (i := 1) (by omega) fun A hA => ⟨(k1.toNat : Int), hb5.cellB g1 hA, cnd_bne (fun h1 => ⟨b5, e05, ?_⟩) fun h1 => cnd_dec (fun h2 => ⟨b5, e05, ?_⟩) fun h2 => ?_⟩⟩)
    · rw [hbad]
      have : k1 ≠ 0 := by rintro rfl; exact h1 rfl
      simp [this]
    · rw [hbad]
      have : 496 < n := by omega
      simp [this]
    · have hn : n ≤ 496 := by omega
      rw [hwn hn]
      refine ⟨by decide, by omega, by omega, by simp; omega, ?_⟩
      have hr2 := hb5.subB hc (i := 12 + n) (j := 508) (by omega) (by omega)
      rw [show 508 - (12 + n) = 496 - n by omega] at hr2
      simp only [Int.toNat_natCast]
      have h508 : Int.toNat 508 - (12 + n) = 496 - n := by simp; omega
      rw [h508]
      refine CallT.mono (word_Zero.spec hr2 (by simp; omega)) ?_
      rintro _ w6 ⟨rfl, e6⟩
      refine ⟨b5.ext e6, e05.tr e6, ?_⟩
      rw [hbad]
      have hk1 : k1 = 0 := by rw [← UInt8.toNat_inj]; simpa using h1
      have hn' : ¬ 496 < n := by omega
      simp [hk, hk1, hn']
  · rintro x _ w6 ⟨b6, e6, hx⟩
    cases x with
    | true =>
      refine cnd_pos rfl ?_
      rw [hno (hx.1 rfl)]
      exact sec_err b6 e6 (Nat.le_refl _)
    | false => exact cnd_neg rfl ⟨b6, e6, fun g => by have := hx.2 g; simp at this⟩
  rintro _ _ w6 ⟨b6, e6, hG⟩
  have hn : n ≤ 496 := by rw [hbad] at hG; omega
  refine CallT.mono (word_Get.spec (hb.ext e6) hc (by omega) (a := 4) (n := 8) (by decide) (by decide)) ?_
  rintro _ w7 ⟨rfl, e7⟩
  rw [show getB b 4 8 = _ from getB_ok h512 (a := 4) (n := 8) (by decide) (by decide), hok hG]
  have e07 := (e6.tr e7).tr (ext_drew w7)
  have b7 := (b6.ext e7).ext (ext_drew w7)
  have hb7 := hb.ext e07
  refine ⟨fun w' => RdB w' s b, hb7, by decide, by omega, SV.getB hb7 (i := 0) (by omega) fun A hA => ⟨(k0.toNat : Int), fun w' hw' => hw'.cellB g0 hA, ?_⟩⟩
  generalize w7.drew = w8 at *
  rw [hwn hn]
  refine ⟨by omega, by omega, by decide, by simp; omega, ?_⟩
  have hr3 := hb7.subB hc (i := 12) (j := 12 + n) (by omega) (by omega)
  simp only [Int.toNat_natCast]
  rw [show 12 + n - 12 = n by omega] at hr3
  rw [show 12 + n - Int.toNat 12 = n by simp]
  refine CallT.mono (slices_Clone_byte_byte.spec hr3 (by simp; omega)) ?_
  rintro q w9 ⟨hq, e9, _⟩
  have e09 := e07.tr e9
  refine ⟨hb7.ext e9, ?_⟩
  refine sec_out (b7.ext e9) e09 (Nat.le_refl _) (hq.newB.to e07) (fun c h hcb => ?_) rfl rfl rfl
  have := hq.blk_ge h
  have := b7.lt
  omega
end Go.Proofs
/- The document's Seal, Open and Good; sector.Good. Conditions: those of each contract. -/
namespace Go.Proofs
open Go Go.Vc Go.Crc
theorem dunnageref01_Zero.spec {w : World} {s : SV} {l : List UInt8} (hs : RdB w s l) (hl : l.length < 2 ^ 62) :
    CallT [.one .bool] Try.prog F.dunnageref01_Zero [.slice s.a s.len s.cap] w fun r w' => r = allZ l ∧ w = w' := by
  refine dunnageref01_Zero.vc s w _ ?_
  have hsl := hs.lenB
  refine ⟨fun n i w' => ∃ k : Nat, i = k ∧ k ≤ l.length ∧ n = l.length - k ∧ w = w' ∧ allZ (l.take k) = true, ⟨_, 0, rfl, by omega, rfl, rfl, rfl⟩, ?_⟩
  rintro n i j _ ⟨k, rfl, hk, rfl, rfl, hz⟩
  refine cnd_dec (fun hlt => ?_) (fun hge => ?_)
  · have hkl : k < l.length := by omega
    refine ⟨by omega, by omega, SV.getB hs hkl fun A hA => ⟨(l[k]).toNat, hs.cellB (List.getElem?_eq_getElem hkl) hA, cnd_bne (fun hne => ⟨?_, rfl⟩) (fun h0 => ⟨l.length - (k + 1), by omega, k + 1, by rw [i64_id] <;> omega, by omega, rfl, rfl, ?_⟩)⟩⟩
    · symm
      simp only [allZ, List.all_eq_false]
      refine ⟨l[k], List.getElem_mem hkl, ?_⟩
      intro h
      have : l[k] = 0 := by simpa using h
      rw [this] at hne; exact hne rfl
    · have : l[k] = 0 := by rw [← UInt8.toNat_inj]; simpa using h0
      rw [List.take_add_one, List.getElem?_eq_getElem hkl, this]
      simp only [allZ, List.all_append] at hz ⊢
      simp [hz]
  · have : k = l.length := by omega
    subst this
    rw [List.take_length] at hz
    exact ⟨hz.symm, rfl⟩
theorem ref03_number.spec {w0 w : World} {s : SV} {l : List UInt8} {v n : Nat} (he : Ext w0 w) (hs : OwnB w w0.heap.size s l) (hn : n ≤ 8) (hl : l.length ≤ 1000000) :
    CallT [.one .slice] Try.prog F.dunnageref03_number [.slice s.a s.len s.cap, .int .u64 v, .int .i64 n] w fun r w' => OwnB w' w0.heap.size r (l ++ leB n v) ∧ Ext w0 w' := by
  refine dunnageref03_number.vc s v n w _ ?_
  refine ⟨fun m x w' => ∃ i : Nat, x.2 = i ∧ m = n - i ∧ i ≤ n ∧ OwnB w' w0.heap.size x.1 (l ++ leB i v) ∧ Ext w0 w',
    ⟨_, 0, rfl, rfl, by omega, by simpa [leB] using hs, he⟩, ?_⟩
  rintro m ⟨o', i'⟩ j w' ⟨i, h2, rfl, hik, ho', he'⟩
  dsimp only at h2 ho' ⊢
  subst h2
  refine cnd_dec (fun hlt => ?_) (fun hge => ?_)
  · have hol := ho'.lenB
    rw [List.length_append, leB_len] at hol
    have hw : IntKind.u64.wrap (8 * IntKind.u64.wrap (i : Int)) = ((8 * i : Nat) : Int) := by rw [u64_id (x := i) (by omega) (by omega), u64_id] <;> omega
    rw [hw, shr_nat (k := .u64) (by simp only [IntKind.bits]; omega), ← pow256]
    have h8 := u8_of (v / 256 ^ i)
    rw [h8]
    refine And.intro (by omega) ?_
    refine app_new (vs := B8 [UInt8.ofNat (v / 256 ^ i)]) appB he' ho' rfl (B8_one _) (by omega) ?_
    intro s' w2 ho2 he2 _ _
    refine ⟨n - (i + 1), by omega, i + 1, by rw [i64_id] <;> omega, rfl, by omega, ?_, he2⟩
    rw [leB_succ, ← List.append_assoc, OwnB, B8_append (l ++ leB i v)]; exact ho2
  · have : i = n := by omega
    subst this
    exact ⟨ho', he'⟩
set_option maxRecDepth 100000 in
theorem ref03_Seal.spec {w : World} (k : UInt8) {t : Nat} {s : SV} {p : List UInt8} (_ht : t < 2 ^ 64) (hp : RdB w s p) :
    CallT [.one .slice, .one (.int .i64)] Try.prog F.dunnageref03_Seal [.int .u8 k.toNat, .int .u64 t, .slice s.a s.len s.cap] w fun r w' => NewB w w' r.1 (sealR k t p).1 ∧ r.2 = (sealR k t p).2 ∧ Ext w w' := by
  refine dunnageref03_Seal.vc (k.toNat : Int) (t : Int) s w _ ?_
  have hpl := hp.lenB
  refine CallT.mono (ref03_Known.spec k w) ?_
  rintro _ _ ⟨rfl, rfl⟩
  refine cnd_not (fun hf => ?_) (fun hk => cnd_dec (fun h => ?_) (fun h => ?_))
  · rw [sealR, if_pos hf]; exact ⟨NewB.nil _ _, rfl, Upd.refl _ _⟩
  · rw [sealR, if_neg (by rw [hk]; simp), if_pos (by omega)]; exact ⟨NewB.nil _ _, rfl, Upd.refl _ _⟩
  rw [sealR, if_neg (by rw [hk]; simp), if_neg (by omega)]
  have hl : p.length ≤ 496 := by omega
  have hn64 : IntKind.u64.wrap (s.len : Int) = (p.length : Int) := by rw [u64_mod]; omega
  rw [hn64]
  have h0 : OwnB (w.alloc (.cells (B8 [k, 0]).toArray T.uint8)) w.heap.size ⟨some ⟨w.heap.size, 0, none⟩, 2, 2⟩ [k, 0] := Own.new w T.uint8 1 2 (B8 [k, 0]) rfl
  have e0 := ext_alloc w (.cells (B8 [k, 0]).toArray T.uint8)
  refine CallT.mono (ref03_number.spec (s := ⟨some ⟨w.heap.size, 0, none⟩, 2, 2⟩) (v := p.length) (n := 2) e0 h0 (by decide) (by simp)) ?_
  rintro a w1 ⟨ha, e1⟩
  refine CallT.mono (ref03_number.spec (v := t) (n := 8) e1 ha (by decide) (by simp [leB_len])) ?_
  rintro b w2 ⟨hb, e2⟩
  have hbl := hb.lenB
  simp only [List.length_append, leB_len, List.length_cons, List.length_nil] at hbl
  refine app_rd appB e2 hb (hp.ext e2) (B8_one _) (fun hlt => ?_) ?_
  · have := nextcap_le hlt; omega
  intro c w3 hc e3 _ _
  rw [← B8_append] at hc
  refine ⟨fun m x w' => ∃ i : Nat, m = 496 - p.length - i ∧ i ≤ 496 - p.length ∧ OwnB w' w.heap.size x ([k, 0] ++ leB 2 p.length ++ leB 8 t ++ p ++ List.replicate i 0) ∧ Ext w w', ⟨_, 0, rfl, by omega, by simpa using hc, e3⟩, ?_⟩
  rintro m x _ w4 ⟨i, rfl, hi, hx, e4⟩
  have hxl := hx.lenB
  simp only [List.length_append, leB_len, List.length_cons, List.length_nil, List.length_replicate] at hxl
  refine cnd_dec (fun hlt => ?_) (fun hge => ?_)
  · refine app_new (vs := B8 [0]) appB e4 hx rfl (B8_one _) (by omega) ?_
    intro s' w5 ho2 e5 _ _
    refine ⟨496 - p.length - (i + 1), by omega, i + 1, rfl, by omega, ?_, e5⟩
    rw [List.replicate_succ', ← List.append_assoc, OwnB, B8_append (_ ++ List.replicate i 0)]; exact ho2
  have hi' : i = 496 - p.length := by omega
  subst hi'
  have hsec : [k, 0] ++ leB 2 p.length ++ leB 8 t ++ p ++ List.replicate (496 - p.length) 0 = secH k t p := rfl
  rw [hsec] at hx
  have hsl := secH_len (k := k) (t := t) hl
  refine CallT.mono (dunnageref02_Sum.spec hx.rd (by rw [hsl]; decide)) ?_
  rintro _ _ ⟨rfl, rfl⟩
  have hml := more_lt (s := 0) (by decide) (secH k t p)
  have hw7 : IntKind.u64.wrap ((more 0 (secH k t p) : Nat) : Int) = ((more 0 (secH k t p) : Nat) : Int) := by rw [u64_mod]; omega
  rw [hw7]
  refine CallT.mono (ref03_number.spec (v := more 0 (secH k t p)) (n := 4) e4 hx (by decide) (by rw [hsl]; decide)) ?_
  rintro d w5 ⟨hd, e5⟩
  exact ⟨OwnB.newB hd, by simp, e5⟩
set_option maxRecDepth 100000 in
theorem ref03_Open.spec {w : World} {s : SV} {b : List UInt8} (hb : RdB w s b) (hc : s.len ≤ s.cap) (hl : b.length ≤ 140737488351232) :
    CallT [.agg [.int .u8, .int .u64, .slice], .one (.int .i64)] Try.prog F.dunnageref03_Open [.slice s.a s.len s.cap] w fun r w' => SecAns (openR b) w r w' := by
  refine dunnageref03_Open.vc s w _ ?_
  have hsl := hb.lenB
  generalize hc1 : w.alloc _ = w1
  obtain ⟨b1, e1, z1⟩ := bk_new (T := T.api_Sector) (vs := zSec) hc1
  dsimp only
  refine cnd_bne (fun hne => ?_) (fun h512 => ?_)
  · rw [openR_len (by omega)]
    exact sec_err b1 e1 (Nat.le_refl _)
  have h512 : b.length = 512 := by omega
  refine CallT.mono (dunnageref01_Zero.spec (hb.ext e1) (by omega)) ?_
  rintro _ _ ⟨rfl, rfl⟩
  cases hz : allZ b with
  | true =>
    refine cnd_pos rfl ?_
    rw [openR_zero h512 hz]
    exact sec_err b1 e1 (Nat.le_refl _)
  | false =>
  refine cnd_neg rfl ?_
  refine CallT.mono (dunnageref01_Get.spec (hb.ext e1) (by omega) (a := 508) (n := 4) (by decide) (by decide)) ?_
  rintro _ _ ⟨rfl, rfl⟩
  rw [show getB b 508 4 = _ from getB_ok h512 (a := 508) (n := 4) (by decide) (by decide)]
  refine ⟨by decide, by omega, ?_⟩
  have hr := (hb.ext e1).subB hc (i := 0) (j := 508) (by decide) (by omega)
  rw [List.drop_zero] at hr
  refine CallT.mono (dunnageref02_Sum.spec hr (by simp; omega)) ?_
  rintro _ _ ⟨rfl, rfl⟩
  have hlv := leV_take_lt (b.drop 508) 4
  have hw : IntKind.u32.wrap ((leV ((b.drop 508).take 4) : Nat) : Int) = ((leV ((b.drop 508).take 4) : Nat) : Int) := by rw [wrap_mod rfl]; simp only [IntKind.bits]; omega
  dsimp only
  rw [hw]
  refine cnd_bne (fun hne => ?_) (fun heq => ?_)
  · have hrf : rightB b = false := by
      cases hh : rightB b with
      | false => rfl
      | true => exact absurd (by rw [(right_get h512).1 hh]) hne
    rw [openR_sum h512 hz hrf]
    exact sec_err b1 e1 (Nat.le_refl _)
  have hrt : rightB b = true := (right_get h512).2 (by simp only [Nat.sub_zero] at heq; omega)
  refine CallT.mono (dunnageref01_Get.spec (hb.ext e1) (by omega) (a := 2) (n := 2) (by decide) (by decide)) ?_
  rintro _ _ ⟨rfl, rfl⟩
  rw [show getB b 2 2 = _ from getB_ok h512 (a := 2) (n := 2) (by decide) (by decide)]
  refine CallT.mono (dunnageref01_Get.spec (hb.ext e1) (by omega) (a := 4) (n := 8) (by decide) (by decide)) ?_
  rintro _ _ ⟨rfl, rfl⟩
  rw [show getB b 4 8 = _ from getB_ok h512 (a := 4) (n := 8) (by decide) (by decide)]
  have hb5 := hb.ext e1
  have hn2 := leV_take_lt (b.drop 2) 2
  have g0 : b[0]? = some (b.getD 0 0) := by rw [List.getD_eq_getElem?_getD, List.getElem?_eq_getElem (by omega)]; rfl
  have g1 : b[1]? = some (b.getD 1 0) := by rw [List.getD_eq_getElem?_getD, List.getElem?_eq_getElem (by omega)]; rfl
  have hbad : Bad b ↔ (knownK (b.getD 0 0) = false ∨ b.getD 1 0 ≠ 0 ∨ 496 < leV ((b.drop 2).take 2) ∨ allZ ((b.drop (12 + leV ((b.drop 2).take 2))).take (496 - leV ((b.drop 2).take 2))) = false) := Iff.rfl
  have hok := openR_ok h512 hz hrt
  have hno := openR_bad h512 hz hrt
  generalize b.getD 0 0 = k0 at *
  generalize b.getD 1 0 = k1 at *
  generalize leV ((b.drop 2).take 2) = n at *
  generalize Bad b = G at *
  have hwn : n ≤ 496 → IntKind.i64.wrap (12 + IntKind.i64.wrap (n : Int)) = ((12 + n : Nat) : Int) := fun h => by rw [i64_id (x := (n : Int)) (by omega) (by omega), i64_id (by omega) (by omega)]; simp
  refine ⟨fun _ w' => w1 = w' ∧ knownK k0 = true ∧ k1 = 0 ∧ n ≤ 496, ⟨fun x w' => w1 = w' ∧ (x = false ↔ knownK k0 = true ∧ k1 = 0 ∧ n ≤ 496), ⟨by decide, by omega, SV.getB hb5 (i := 0) (by omega) fun A hA => ⟨(k0.toNat : Int), hb5.cellB g0 hA, CallT.mono (ref03_Known.spec k0 w1) ?_⟩⟩, ?_⟩, ?_⟩
  · rintro _ _ ⟨rfl, rfl⟩
    refine cnd_not (fun hk => ⟨rfl, by simp [hk]⟩) (fun hk => ⟨by decide, by omega, SV.getB hb5 (i := 1) (by omega) fun A hA => ⟨(k1.toNat : Int), hb5.cellB g1 hA, cnd_bne (fun h1 => ⟨rfl, ?_⟩) fun h1 => ⟨rfl, ?_⟩⟩⟩)
    · have : k1 ≠ 0 := by rintro rfl; exact h1 rfl
      simp [this]
    · have hk1 : k1 = 0 := by rw [← UInt8.toNat_inj]; simpa using h1
      rw [decide_eq_false_iff_not]
      simp only [hk, hk1, true_and]
      omega
  · rintro x _ _ ⟨rfl, hx⟩
    cases x with
    | true =>
      refine cnd_pos rfl ?_
      have hG : G := by
        rw [hbad]
        have : ¬ (knownK k0 = true ∧ k1 = 0 ∧ n ≤ 496) := fun h => by have := hx.2 h; simp at this
        by_cases a1 : knownK k0 = true
        · by_cases a2 : k1 = 0
          · exact .inr (.inr (.inl (by rcases Nat.lt_or_ge 496 n with h | h; exact h; exact absurd ⟨a1, a2, h⟩ this)))
          · exact .inr (.inl a2)
        · exact .inl (by simpa using a1)
      rw [hno hG]
      exact sec_err b1 e1 (Nat.le_refl _)
    | false => exact cnd_neg rfl ⟨rfl, hx.1 rfl⟩
  rintro _ _ _ ⟨rfl, hk, hk1, hn⟩
  rw [hwn hn]
  refine ⟨by decide, by omega, by omega, by simp; omega, ?_⟩
  have hr2 := hb5.subB hc (i := 12 + n) (j := 508) (by omega) (by omega)
  rw [show 508 - (12 + n) = 496 - n by omega] at hr2
  simp only [Int.toNat_natCast]
  have h508 : Int.toNat 508 - (12 + n) = 496 - n := by simp; omega
  rw [h508]
  refine CallT.mono (dunnageref01_Zero.spec hr2 (by simp; omega)) ?_
  rintro _ _ ⟨rfl, rfl⟩
  refine cnd_not (fun hzf => ?_) (fun hzt => ?_)
  · have hG : G := by rw [hbad]; exact .inr (.inr (.inr hzf))
    rw [hno hG]
    exact sec_err b1 e1 (Nat.le_refl _)
  have hG : ¬ G := by
    rw [hbad]
    rintro (h | h | h | h)
    · rw [hk] at h; simp at h
    · exact h hk1
    · omega
    · rw [hzt] at h; simp at h
  rw [hok hG]
  have e07 := e1.tr (ext_drew w1)
  have b7 := b1.ext (ext_drew w1)
  have hb7 := hb.ext e07
  refine ⟨fun w' => RdB w' s b, hb7, by decide, by omega, SV.getB hb7 (i := 0) (by omega) fun A hA => ⟨(k0.toNat : Int), fun w' hw' => hw'.cellB g0 hA, ?_⟩⟩
  generalize w1.drew = w8 at *
  refine ⟨by omega, by omega, by decide, by simp; omega, ?_⟩
  have hr3 := hb7.subB hc (i := 12) (j := 12 + n) (by omega) (by omega)
  rw [show 12 + n - 12 = n by omega] at hr3
  rw [show 12 + n - Int.toNat 12 = n by simp]
  have h0 : Own w8 w8.heap.size T.uint8 1 ⟨none, 0, 0⟩ [] := Own.nil _ _ _ _
  have hroom : (0 : Nat) < 0 + n → Builtin.nextslicecap (0 + n) 0 * 1 ≤ 281474976710656 := fun hc => by
    rw [Nat.zero_add, nextcap_zero (by omega)]; omega
  refine appV_own (s := ⟨none, 0, 0⟩) appB h0 (hr3.src (B8_one _)) (Nat.le_refl _) hroom fun q w9 hq _ u9 _ => ?_
  rw [List.nil_append] at hq
  have hq : OwnB w9 w8.heap.size q ((b.drop 12).take n) := hq
  have e9 : Ext w8 w9 := (Upd.refl _ w8).own h0 (Nat.le_refl _) u9
  have e09 := e07.tr e9
  refine ⟨hb7.ext e9, ?_⟩
  refine sec_out (R := ((k0, leV ((b.drop 4).take 8), (b.drop 12).take n), 0)) (q := q) (k := (k0.toNat : Int)) (t := ((leV ((b.drop 4).take 8) : Nat) : Int)) (code := 0) (b7.ext e9) e09 (Nat.le_refl _) ((OwnB.newB hq).to e07) (fun c h hcb => ?_) rfl rfl rfl
  have := hq.blk_ge h
  have := b7.lt
  omega
end Go.Proofs
/- Numbers as bytes, there and back: in plain Lean. Conditions: those that each lemma names. -/
namespace Go.Proofs
open Go Go.Vc
/-- What a number is as bytes is read as that number. -/
theorem rvGo_varB : ∀ (x n v : Nat) (rest : List UInt8), n ≤ 9 → x * 128 ^ n < 2 ^ 64 → (n = 0 ∨ 0 < x) → rvGo n v (varB x ++ rest) = (v + x * 128 ^ n, n + (varB x).length, 0) := by
  intro x
  induction x using Nat.strongRecOn with
  | ind x ih =>
    intro n v rest hn hx h0
    have hpos : 0 < 128 ^ n := Nat.pow_pos (by decide)
    by_cases hlt : x < 128
    · have hc : (UInt8.ofNat x).toNat = x := by simp; omega
      rw [varB_lt hlt, List.singleton_append, rvGo, hc, if_neg, if_pos hlt, Nat.mod_eq_of_lt hlt]
      · rfl
      · rintro (⟨rfl, h⟩ | ⟨h1, h2⟩)
        · have : 2 * 128 ^ 9 ≤ x * 128 ^ 9 := Nat.mul_le_mul_right _ h
          omega
        · omega
    · have hn8 : n ≤ 8 := by
        rcases Nat.lt_or_ge 8 n with h | h
        · have : n = 9 := by omega
          subst this
          have : 128 * 128 ^ 9 ≤ x * 128 ^ 9 := Nat.mul_le_mul_right _ (by omega)
          omega
        · exact h
      have hc : (UInt8.ofNat (x % 128 + 128)).toNat = x % 128 + 128 := by simp; omega
      have hdm : x = 128 * (x / 128) + x % 128 := (Nat.div_add_mod x 128).symm
      have hsplit : x * 128 ^ n = x % 128 * 128 ^ n + x / 128 * 128 ^ (n + 1) := by
        rw [Nat.pow_succ, Nat.mul_comm (128 ^ n) 128, ← Nat.mul_assoc, ← Nat.add_mul]
        congr 1; omega
      rw [varB_ge hlt, List.cons_append, rvGo, hc, if_neg (by omega), if_neg (by omega)]
      rw [ih (x / 128) (by omega) (n + 1) _ rest (by omega) (by omega) (.inr (by omega))]
      rw [show (x % 128 + 128) % 128 = x % 128 by omega, hsplit, List.length_cons]
      refine Prod.ext ?_ (Prod.ext ?_ rfl)
      · simp only; omega
      · simp only; omega
theorem readVar_nat (l : List UInt8) (a : Nat) : readVar l a = (match rvGo 0 0 (l.drop a) with | (v, n, e) => if e = 0 then ((v : Int), (a : Int) + n, 0) else (0, 0, e)) := by
  rw [readVar, if_neg (by omega), Int.toNat_natCast]
theorem readVar_varB {a rest : List UInt8} {x : Nat} (hx : x < 2 ^ 64) : readVar (a ++ (varB x ++ rest)) (a.length : Int) = ((x : Int), ((a.length + (varB x).length : Nat) : Int), 0) := by
  rw [readVar_nat, List.drop_left, rvGo_varB x 0 0 rest (by omega) (by simpa using hx) (.inl rfl)]
  simp
end Go.Proofs
/- Manifests: which may be, what they are as bytes, what bytes are as one. Conditions: those of each lemma. -/
namespace Go.Proofs
open Go Go.Vc Go.Crc
structure Man where
  turn : Nat
  age : Nat
  image : Int
  parts : Int
  made : Nat
  log : Nat
  least : Nat
  seq : Nat
  serial : Nat
  deriving DecidableEq
def Man.z : Man := ⟨0, 0, 0, 0, 0, 0, 0, 0, 0⟩
abbrev M9 := Int × Int × Int × Int × Int × Int × Int × Int × Int
@[reducible] def Man.t (m : Man) : M9 := ((m.turn : Int), (m.age : Int), m.image, m.parts, (m.made : Int), (m.log : Int), (m.least : Int), (m.seq : Int), (m.serial : Int))
@[reducible] def m9v (x : M9) : List Value := [.int .u64 x.1, .int .u64 x.2.1, .int .i64 x.2.2.1, .int .i64 x.2.2.2.1, .int .u64 x.2.2.2.2.1, .int .u64 x.2.2.2.2.2.1, .int .u64 x.2.2.2.2.2.2.1, .int .u64 x.2.2.2.2.2.2.2.1, .int .u64 x.2.2.2.2.2.2.2.2]
@[reducible] def zMan : List Value := [.int .u64 0, .int .u64 0, .int .i64 0, .int .i64 0, .int .u64 0, .int .u64 0, .int .u64 0, .int .u64 0, .int .u64 0]
/-- The fields fit their types. -/
structure U9 (m : Man) : Prop where
  turn : m.turn < 2 ^ 64
  age : m.age < 2 ^ 64
  image : -9223372036854775808 ≤ m.image ∧ m.image ≤ 9223372036854775807
  parts : -9223372036854775808 ≤ m.parts ∧ m.parts ≤ 9223372036854775807
  made : m.made < 2 ^ 64
  log : m.log < 2 ^ 64
  least : m.least < 2 ^ 64
  seq : m.seq < 2 ^ 64
  serial : m.serial < 2 ^ 64
def far : Nat := 4611686018427387904
def May (m : Man) : Prop := (1 ≤ m.turn ∧ m.turn ≤ 4611686018427387904) ∧ (0 ≤ m.image ∧ m.image ≤ 1) ∧ (0 ≤ m.parts ∧ m.parts ≤ 65536) ∧ m.age ≤ 4611686018427387904 ∧ m.made ≤ 4611686018427387904 ∧ m.log ≤ 4611686018427387904 ∧ m.least ≤ 4611686018427387904 ∧ m.seq ≤ 4611686018427387904 ∧ m.serial ≤ 4611686018427387904
instance (m : Man) : Decidable (May m) := by unfold May; exact inferInstance
theorem May.u9 {m : Man} (h : May m) : U9 m := by
  unfold May at h
  constructor <;> omega
def payL (m : Man) : List Nat := [m.age, m.image.toNat, m.parts.toNat, m.made, m.log, m.least, m.seq, m.serial]
def pre (l : List Nat) (i : Nat) : List UInt8 := (l.take i).flatMap varB
def payM (m : Man) : List UInt8 := (payL m).flatMap varB
def wrM (m : Man) : List UInt8 := sealB 23 m.turn (payM m)
def writeM (m : Man) : List UInt8 × Int := if May m then (wrM m, 0) else ([], 11)
theorem payL_len (m : Man) : (payL m).length = 8 := rfl
set_option maxRecDepth 100000 in
theorem payL_lt {m : Man} (h : May m) : ∀ v ∈ payL m, v ≤ 4611686018427387904 := by
  unfold May at h
  intro v hv
  simp only [payL, List.mem_cons, List.not_mem_nil, or_false] at hv
  omega
theorem pre_succ {l : List Nat} {i : Nat} (h : i < l.length) : pre l (i + 1) = pre l i ++ varB l[i] := by
  rw [pre, List.take_succ_eq_append_getElem h, List.flatMap_append, List.flatMap_cons, List.flatMap_nil, List.append_nil, pre]
theorem pre_all (m : Man) : pre (payL m) 8 = payM m := by rw [pre, payM, List.take_of_length_le (by rw [payL_len]; exact Nat.le_refl _)]
theorem flat_var_len : ∀ (l : List Nat), (∀ v ∈ l, v < 2 ^ 64) → (l.flatMap varB).length ≤ 10 * l.length
  | [], _ => by simp
  | v :: r, h => by
    have h1 := varB_10 (h v (by simp))
    have h2 := flat_var_len r fun x hx => h x (by simp [hx])
    simp only [List.flatMap_cons, List.length_append, List.length_cons]; omega
theorem payM_len {m : Man} (h : May m) : (payM m).length ≤ 80 := by
  have := flat_var_len (payL m) fun v hv => by have := payL_lt h v hv; omega
  rw [payL_len] at this
  exact this
/-- Reading at a number gives the number. -/
theorem read_pre {l : List Nat} (hl : ∀ v ∈ l, v < 2 ^ 64) {i : Nat} (h : i < l.length) : readVar (l.flatMap varB) ((pre l i).length : Int) = ((l[i] : Int), ((pre l (i + 1)).length : Int), 0) := by
  have e : l.flatMap varB = pre l i ++ (varB l[i] ++ (l.drop (i + 1)).flatMap varB) := by
    conv => lhs; rw [← List.take_append_drop i l]
    rw [List.flatMap_append, pre, List.drop_eq_getElem_cons h, List.flatMap_cons]
  rw [e, readVar_varB (hl _ (List.getElem_mem h)), pre_succ h, List.length_append]
theorem flat_inj : ∀ {l l' : List Nat}, l.length = l'.length → (∀ v ∈ l, v < 2 ^ 64) → (∀ v ∈ l', v < 2 ^ 64) → l.flatMap varB = l'.flatMap varB → l = l'
  | [], [], _, _, _, _ => rfl
  | a :: r, b :: r', hl, h1, h2, he => by
    simp only [List.flatMap_cons] at he
    have e1 := readVar_varB (a := []) (rest := r.flatMap varB) (h1 a (by simp))
    have e2 := readVar_varB (a := []) (rest := r'.flatMap varB) (h2 b (by simp))
    simp only [List.nil_append] at e1 e2
    rw [he, e2] at e1
    have hab : b = a := by have h9 : (b : Int) = a := congrArg Prod.fst e1
                           omega
    subst hab
    rw [List.append_right_inj] at he
    rw [flat_inj (by simpa using hl) (fun v hv => h1 v (by simp [hv])) (fun v hv => h2 v (by simp [hv])) he]
theorem open_wr {m : Man} (h : May m) : openR (wrM m) = ((23, m.turn, payM m), 0) := by
  have := payM_len h
  have := h.u9.turn
  exact open_seal (by decide) (by omega) this
theorem wrM_len {m : Man} (h : May m) : (wrM m).length = 512 := sealB_len (by have := payM_len h; omega)
theorem payM_inj {m m' : Man} (h : May m) (h' : May m') (ht : m.turn = m'.turn) (hp : payM m = payM m') : m = m' := by
  have hl := flat_inj (l := payL m) (l' := payL m') rfl (fun v hv => by have := payL_lt h v hv; omega) (fun v hv => by have := payL_lt h' v hv; omega) hp
  simp only [payL, List.cons.injEq, and_true] at hl
  obtain ⟨h1, h2, h3, h4, h5, h6, h7, h8⟩ := hl
  unfold May at h h'
  cases m; cases m'
  simp only [Man.mk.injEq] at *
  omega
theorem wrM_inj {m m' : Man} (h : May m) (h' : May m') (he : wrM m = wrM m') : m = m' := by
  have h1 := open_wr h
  rw [he, open_wr h'] at h1
  simp only [Prod.mk.injEq, and_true, true_and] at h1
  exact (payM_inj h' h h1.1 h1.2).symm
open Classical in
noncomputable def readM (b : List UInt8) : Man × Int :=
  if (openR b).2 ≠ 0 then (Man.z, 5) else if (openR b).1.1 = 0 then (Man.z, 270) else if h : ∃ m, May m ∧ wrM m = b then (h.choose, 0) else (Man.z, 11)
theorem readM_bad {b : List UInt8} (h : (openR b).2 ≠ 0) : readM b = (Man.z, 5) := by rw [readM, if_pos h]
theorem readM_blank {b : List UInt8} (h : (openR b).2 = 0) (hk : (openR b).1.1 = 0) : readM b = (Man.z, 270) := by rw [readM, if_neg (by simpa using h), if_pos hk]
theorem readM_form {b : List UInt8} (h : (openR b).2 = 0) (hk : (openR b).1.1 ≠ 0) (hn : ∀ m, May m → wrM m ≠ b) : readM b = (Man.z, 11) := by
  rw [readM, if_neg (by simpa using h), if_neg hk, dif_neg]
  rintro ⟨m, h1, h2⟩
  exact hn m h1 h2
theorem readM_wr {m : Man} (h : May m) : readM (wrM m) = (m, 0) := by
  have ho := open_wr h
  have hex : ∃ m', May m' ∧ wrM m' = wrM m := ⟨m, h, rfl⟩
  rw [readM, ho, if_neg (by simp), if_neg (by simp), dif_pos hex]
  have := hex.choose_spec
  rw [wrM_inj this.1 h this.2]
theorem readM_codes (b : List UInt8) : (readM b).2 = 0 ∨ (readM b).2 = 5 ∨ (readM b).2 = 11 ∨ (readM b).2 = 270 := by
  unfold readM
  split
  · simp
  split
  · simp
  split <;> simp
/-- Which of two slots counts. -/
noncomputable def chooseM (a b : List UInt8) : Man × Int × Int :=
  if (readM a).2 = 5 ∨ (readM a).2 = 11 then (Man.z, 0, (readM a).2)
  else if (readM b).2 = 5 ∨ (readM b).2 = 11 then (Man.z, 0, (readM b).2)
  else if (readM a).2 = 270 ∧ (readM b).2 = 270 then (Man.z, 0, 270)
  else if (readM a).2 = 270 then ((readM b).1, 1, 0)
  else if (readM b).2 = 270 then ((readM a).1, 0, 0)
  else if (readM a).1.turn = (readM b).1.turn then (Man.z, 0, 11)
  else if (readM a).1.turn > (readM b).1.turn then ((readM a).1, 0, 0) else ((readM b).1, 1, 0)
def nextM (m : Man) (slot : Int) : Man × Int := if May m then ({ m with turn := m.turn + 1 }, if slot = 0 then 1 else 0) else (Man.z, 0)
end Go.Proofs
/- manifest.May and Write, and the document's. Conditions: those of each contract. -/
namespace Go.Proofs
open Go Go.Vc Go.Crc
theorem manifest_May.spec (m : Man) (w : World) : CallT [.one .bool] Try.prog F.manifest_May [.agg (m9v m.t).toArray] w fun r w' => r = decide (May m) ∧ Ext w w' := by
  refine manifest_May.vc m.t w _ ?_
  generalize hc : w.alloc _ = w1
  obtain ⟨b1, e1, z1⟩ := bk_new (T := T.api_Manifest) (vs := m9v m.t) hc
  have no : ∀ {w' : World}, Ext w w' → ¬ May m → false = decide (May m) ∧ Ext w w' := fun e h => ⟨by rw [eq_comm, decide_eq_false_iff_not]; exact h, e⟩
  refine ⟨fun _ w' => w1 = w' ∧ (1 ≤ m.turn ∧ m.turn ≤ 4611686018427387904) ∧ (0 ≤ m.image ∧ m.image ≤ 1) ∧ (0 ≤ m.parts ∧ m.parts ≤ 65536), ⟨(m.turn : Int), b1.get 0 rfl, cnd_dec (fun h => no e1 fun g => by unfold May at g; omega) fun h1 => ⟨(m.turn : Int), b1.get 0 rfl, cnd_dec (fun h => no e1 fun g => by unfold May at g; omega) fun h2 => ⟨m.image, b1.get 2 rfl, cnd_dec (fun h => no e1 fun g => by unfold May at g; omega) fun h3 => ⟨m.image, b1.get 2 rfl, cnd_dec (fun h => no e1 fun g => by unfold May at g; omega) fun h4 => ⟨m.parts, b1.get 3 rfl, cnd_dec (fun h => no e1 fun g => by unfold May at g; omega) fun h5 => ⟨m.parts, b1.get 3 rfl, cnd_dec (fun h => no e1 fun g => by unfold May at g; omega) fun h6 => ⟨rfl, by omega, by omega, by omega⟩⟩⟩⟩⟩⟩⟩, ?_⟩
  rintro _ _ _ ⟨rfl, h1, h2, h3⟩
  refine ⟨(m.age : Int), b1.get 1 rfl, (m.made : Int), b1.get 4 rfl, (m.log : Int), b1.get 5 rfl, (m.least : Int), b1.get 6 rfl, (m.seq : Int), b1.get 7 rfl, (m.serial : Int), b1.get 8 rfl, ?_, e1⟩
  rw [decide_eq_decide]
  unfold May
  omega
theorem ref27_May.spec (m : Man) (w : World) : CallT [.one .bool] Try.prog F.dunnageref27_May [.agg (m9v m.t).toArray] w fun r w' => r = decide (May m) ∧ Ext w w' := by
  refine dunnageref27_May.vc m.t w _ ?_
  generalize hc : w.alloc _ = w1
  obtain ⟨b1, e1, z1⟩ := bk_new (T := T.api_Manifest) (vs := m9v m.t) hc
  have no : ¬ May m → false = decide (May m) ∧ Ext w w1 := fun h => ⟨by rw [eq_comm, decide_eq_false_iff_not]; exact h, e1⟩
  refine ⟨(m.turn : Int), b1.get 0 rfl, cnd_dec (fun h1 => ?_) fun h => no fun g => by unfold May at g; omega⟩
  refine ⟨(m.turn : Int), b1.get 0 rfl, cnd_dec (fun h2 => ?_) fun h => no fun g => by unfold May at g; omega⟩
  refine ⟨(m.age : Int), b1.get 1 rfl, cnd_dec (fun h3 => ?_) fun h => no fun g => by unfold May at g; omega⟩
  refine ⟨(m.made : Int), b1.get 4 rfl, cnd_dec (fun h4 => ?_) fun h => no fun g => by unfold May at g; omega⟩
  refine ⟨(m.log : Int), b1.get 5 rfl, cnd_dec (fun h5 => ?_) fun h => no fun g => by unfold May at g; omega⟩
  refine ⟨(m.least : Int), b1.get 6 rfl, cnd_dec (fun h6 => ?_) fun h => no fun g => by unfold May at g; omega⟩
  refine ⟨(m.seq : Int), b1.get 7 rfl, cnd_dec (fun h7 => ?_) fun h => no fun g => by unfold May at g; omega⟩
  refine ⟨(m.serial : Int), b1.get 8 rfl, cnd_dec (fun h8 => ?_) fun h => no fun g => by unfold May at g; omega⟩
  have tail : (m.image = 0 ∨ m.image = 1) → ∃ x, w1.cell? (Addr.add ⟨w.heap.size, 0, none⟩ 3) = some (Value.int IntKind.i64 x) ∧ cnd (decide (x ≥ 0)) (∃ x, w1.cell? (Addr.add ⟨w.heap.size, 0, none⟩ 3) = some (Value.int IntKind.i64 x) ∧ (decide (x ≤ 65536) = decide (May m) ∧ Ext w w1)) (false = decide (May m) ∧ Ext w w1) := fun hi =>
    ⟨m.parts, b1.get 3 rfl, cnd_dec (fun h9 => ⟨m.parts, b1.get 3 rfl, by rw [decide_eq_decide]; unfold May; omega, e1⟩) fun h => no fun g => by unfold May at g; omega⟩
  refine ⟨m.image, b1.get 2 rfl, cnd_beq (fun h9 => tail (.inl h9)) fun h9 => ⟨m.image, b1.get 2 rfl, cnd_beq (fun h10 => tail (.inr h10)) fun h => no fun g => by unfold May at g; omega⟩⟩
theorem manifest_writer_num.spec {w : World} {wb B : Nat} {t : SV} {l : List UInt8} {v : Nat} (hb : BK w wb T.manifest_writer [.slice t.a t.len t.cap]) (ho : OwnB w B t l) (hne : ∀ b, t.blk b → b ≠ wb) (hB : B ≤ w.heap.size) (hv : v < 2 ^ 64) (hl : l.length ≤ 1000) :
    CallT [] Try.prog F.manifest_writer_num [.pointer (some ⟨wb, 0, none⟩), .int .u64 v] w fun _ w' => ∃ t', BK w' wb T.manifest_writer [.slice t'.a t'.len t'.cap] ∧ OwnB w' B t' (l ++ varB v) ∧ (∀ b, t'.blk b → b ≠ wb) ∧ Upd (fun x => x = wb ∨ B ≤ x) w w' := by
  refine manifest_writer_num.vc (some ⟨wb, 0, none⟩) (v : Int) w _ ?_
  have hbd := hb.ext (ext_drew w)
  have hod := ho.ext (ext_drew w)
  have ed := ext_drew w
  refine ⟨fun w' => BK w' wb T.manifest_writer [.slice t.a t.len t.cap], hbd, t, fun w' h => h.get 0 rfl, ?_⟩
  generalize w.drew = w1 at *
  refine CallT.mono (word_Var.spec v hv w1) ?_
  rintro x w2 ⟨hx, e2, _⟩
  refine ⟨hbd.ext e2, ?_⟩
  have h10 := varB_10 hv
  have hxl := hx.lenB
  have htl := ho.lenB
  have hb2 := hbd.ext e2
  have ho2 := hod.ext e2
  have sz1 := ed.size
  have sz2 := e2.size
  refine appV_ownL appB ho2 (hx.rd.src (B8_one _)) (by omega) (fun hlt => ?_) ?_
  · have := nextcap_le hlt; omega
  intro s' w3 ho3 hl3 u3 _ hloc
  have hloc' : ∀ c, s'.blk c → t.blk c ∨ c = w2.heap.size := by
    rintro c ⟨A', hA', rfl⟩
    rcases hloc with hl | hl
    · exact .inl ⟨A', by rw [← hl]; exact hA', rfl⟩
    · rw [hl] at hA'; obtain rfl := Option.some.inj hA'; exact .inr rfl
  have hwb2 := hb2.lt
  have hne3 : ∀ b, s'.blk b → b ≠ wb := fun b hb hw => by
    rcases hloc' b hb with h | h
    · exact hne b h hw
    · omega
  have hb3 := hb2.upd u3 fun h => hne wb h rfl
  obtain ⟨k1, k2, k3⟩ := hb3.store 0 (by simp) (.slice s'.a s'.len s'.cap)
  refine ⟨k1, k2, s', k3, ?_, hne3, ?_⟩
  · rw [OwnB, B8_append]
    refine Own.upd (M := fun x => x = wb) ho3 ?_ fun b hb hw => hne3 b hb hw
    rw [add_mk]
    exact (Upd.refl (fun x => x = wb) w3).set (p := ⟨wb, 0 + 0, none⟩) (fun _ => rfl) _
  · have u13 : Upd (fun x => x = wb ∨ B ≤ x) w w3 := ((show Ext w w2 from ed.tr e2).to (fun x => x = wb ∨ B ≤ x)).trans u3 fun x hx hb => .inr (ho2.blk_ge hb)
    rw [add_mk]
    exact u13.set (p := ⟨wb, 0 + 0, none⟩) (fun _ => .inl rfl) _
theorem pl_cells (m : Man) (hm : May m) : ([.int .u64 m.age, .int .u64 (IntKind.u64.wrap m.image), .int .u64 (IntKind.u64.wrap m.parts), .int .u64 m.made, .int .u64 m.log, .int .u64 m.least, .int .u64 m.seq, .int .u64 m.serial] : List Value) = (payL m).map fun v => .int .u64 (v : Nat) := by
  unfold May at hm
  have h1 : IntKind.u64.wrap m.image = (m.image.toNat : Int) := by rw [u64_mod]; omega
  have h2 : IntKind.u64.wrap m.parts = (m.parts.toNat : Int) := by rw [u64_mod]; omega
  rw [h1, h2]; rfl
set_option maxRecDepth 100000 in
theorem manifest_fields.spec {w : World} {wb : Nat} {m : Man} (hm : May m) (hb : BK w wb T.manifest_writer [.slice none 0 0]) :
    CallT [] Try.prog F.manifest_fields [.agg (m9v m.t).toArray, .func (.func F.manifest_writer_num) #[.pointer (some ⟨wb, 0, none⟩)] #[]] w fun _ w' => ∃ t, BK w' wb T.manifest_writer [.slice t.a t.len t.cap] ∧ OwnB w' w.heap.size t (payM m) ∧ Upd (fun x => x = wb) w w' := by
  refine manifest_fields.vc m.t _ w _ ?_
  generalize hc : w.alloc _ = w1
  obtain ⟨b1, e1, z1⟩ := bk_new (T := T.api_Manifest) (vs := m9v m.t) hc
  dsimp only
  refine ⟨(m.age : Int), b1.get 1 rfl, m.image, b1.get 2 rfl, m.parts, b1.get 3 rfl, (m.made : Int), b1.get 4 rfl, (m.log : Int), b1.get 5 rfl, (m.least : Int), b1.get 6 rfl, (m.seq : Int), b1.get 7 rfl, (m.serial : Int), b1.get 8 rfl, ?_⟩
  have hcells := pl_cells m hm
  have b2 : BK (w1.alloc (.cells ((payL m).map fun v => Value.int .u64 (v : Nat)).toArray T.uint64)) w1.heap.size T.uint64 ((payL m).map fun v => Value.int .u64 (v : Nat)) := BK.new _ _ _
  have e2 := ext_alloc w1 (.cells ((payL m).map fun v => Value.int .u64 (v : Nat)).toArray T.uint64)
  have hb2 := (hb.ext e1).ext e2
  have hwb := hb.lt
  rw [← hcells] at b2 e2 hb2
  generalize hc2 : w1.alloc _ = w2 at *
  rw [hcells] at b2
  have sz2 := e2.size
  have hlt12 := b2.lt
  refine ⟨fun n x w' => ∃ i : Nat, x = i ∧ i ≤ 8 ∧ n = 8 - i ∧ ∃ t, BK w' wb T.manifest_writer [.slice t.a t.len t.cap] ∧ OwnB w' w2.heap.size t (pre (payL m) i) ∧ (∀ b, t.blk b → b ≠ wb) ∧ BK w' w1.heap.size T.uint64 ((payL m).map fun v => Value.int .u64 (v : Nat)) ∧ Upd (fun x => x = wb) w2 w',
    ⟨_, 0, rfl, by omega, rfl, ⟨none, 0, 0⟩, hb2, Own.nil _ _ _ _, (by rintro b ⟨A, hA, _⟩; simp at hA), b2, Upd.refl _ _⟩, ?_⟩
  rintro n _ _ w3 ⟨i, rfl, hi, rfl, t, g1, g2, g3, g4, g5⟩
  have hlt64 : ∀ v ∈ payL m, v < 2 ^ 64 := fun v hv => by have := payL_lt hm v hv; omega
  refine cnd_dec (fun hlt => ?_) (fun hge => ?_)
  · have hi8 : i < 8 := by omega
    have hil : i < (payL m).length := hi8
    refine ⟨by omega, by omega, ((payL m)[i] : Int), ?_, ?_⟩
    · rw [Int.toNat_natCast, Nat.mul_one]
      exact g4.get i (by simp [List.getElem?_eq_getElem hil])
    have hpl : (pre (payL m) i).length ≤ 80 := by
      have := flat_var_len ((payL m).take i) fun v hv => hlt64 v (List.mem_of_mem_take hv)
      rw [List.length_take, payL_len] at this
      rw [pre]; omega
    have := g5.size
    refine CallT.mono (manifest_writer_num.spec (B := w2.heap.size) (l := pre (payL m) i) (v := (payL m)[i]) g1 g2 g3 (by omega) (hlt64 _ (List.getElem_mem hil)) (by omega)) ?_
    rintro _ w4 ⟨t', k1, k2, k3, k4⟩
    rw [← pre_succ hil] at k2
    refine ⟨8 - (i + 1), by omega, i + 1, ?_, by omega, rfl, t', k1, k2, k3, g4.upd k4 (by rintro (h | h) <;> omega), ?_⟩
    · rw [i64_id (by omega) (by omega)]; simp
    · refine g5.trans k4 fun x hx h => ?_
      rcases h with h | h
      · exact h
      · omega
  · have : i = 8 := by omega
    subst this
    rw [pre_all] at g2
    have e02 := e1.tr e2
    refine ⟨t, g1, g2.mono (by omega), ((show Ext w w2 from e02).to (fun x => x = wb)).trans g5 fun x hx h => h⟩
set_option maxRecDepth 100000 in
theorem manifest_Write.spec {m : Man} (hu : U9 m) (w : World) :
    CallT [.one .slice, .one (.int .i64)] Try.prog F.manifest_Write [.agg (m9v m.t).toArray] w fun r w' => NewB w w' r.1 (writeM m).1 ∧ r.2 = (writeM m).2 ∧ Ext w w' := by
  refine manifest_Write.vc m.t w _ ?_
  generalize hc : w.alloc _ = w1
  obtain ⟨b1, e1, z1⟩ := bk_new (T := T.api_Manifest) (vs := m9v m.t) hc
  dsimp only
  refine ⟨m.t, b1.all, CallT.mono (manifest_May.spec m w1) ?_⟩
  rintro _ w2 ⟨rfl, e2⟩
  have e02 := e1.tr e2
  refine cnd_not (fun hf => ?_) (fun ht => ?_)
  · rw [writeM, if_neg (by simpa using hf)]
    exact ⟨NewB.nil _ _, rfl, e02⟩
  have hm : May m := by simpa using ht
  rw [writeM, if_pos hm]
  have b2 := b1.ext e2
  generalize hc3 : w2.alloc _ = w3
  obtain ⟨b3, e3, z3⟩ := bk_new (T := T.manifest_writer) (vs := [.slice none 0 0]) hc3
  have b13 := b2.ext e3
  have hlt2 := b2.lt
  refine ⟨m.t, b13.all, CallT.mono (manifest_fields.spec hm b3) ?_⟩
  rintro _ w4 ⟨t, g1, g2, g3⟩
  have b14 := b13.upd g3 (by omega)
  have e24 : Ext w2 w4 := e3.trans g3 fun x hx h => by omega
  have e04 := e02.tr e24
  have ed := ext_drew w4
  refine ⟨fun w' => BK w' w.heap.size T.api_Manifest (m9v m.t) ∧ BK w' w2.heap.size T.manifest_writer [.slice t.a t.len t.cap], ⟨b14.ext ed, g1.ext ed⟩, (m.turn : Int), fun w' h => h.1.get 0 rfl, t, fun w' h => h.2.get 0 rfl, ?_⟩
  have g2d := g2.ext ed
  have e05 := e04.tr ed
  generalize w4.drew = w5 at *
  refine CallT.mono (sector_Seal.spec 23 hu.turn g2d.rd) ?_
  rintro ⟨q, e⟩ w6 ⟨hq, he, e6⟩
  have hR : sealR 23 m.turn (payM m) = (wrM m, 0) := by
    have := payM_len hm
    rw [sealR, if_neg (by decide), if_neg (by omega)]; rfl
  rw [hR] at hq he
  exact ⟨hq.to e05, he, e05.tr e6⟩
set_option maxRecDepth 100000 in
theorem ref27_Write.spec {m : Man} (hu : U9 m) (w : World) :
    CallT [.one .slice, .one (.int .i64)] Try.prog F.dunnageref27_Write [.agg (m9v m.t).toArray] w fun r w' => NewB w w' r.1 (writeM m).1 ∧ r.2 = (writeM m).2 ∧ Ext w w' := by
  refine dunnageref27_Write.vc m.t w _ ?_
  generalize hc : w.alloc _ = w1
  obtain ⟨b1, e1, z1⟩ := bk_new (T := T.api_Manifest) (vs := m9v m.t) hc
  dsimp only
  refine ⟨m.t, b1.all, CallT.mono (ref27_May.spec m w1) ?_⟩
  rintro _ w2 ⟨rfl, e2⟩
  have e02 := e1.tr e2
  refine cnd_not (fun hf => ?_) (fun ht => ?_)
  · rw [writeM, if_neg (by simpa using hf)]
    exact ⟨NewB.nil _ _, rfl, e02⟩
  have hm : May m := by simpa using ht
  rw [writeM, if_pos hm]
  have b2 := b1.ext e2
  refine ⟨(m.age : Int), b2.get 1 rfl, m.image, b2.get 2 rfl, m.parts, b2.get 3 rfl, (m.made : Int), b2.get 4 rfl, (m.log : Int), b2.get 5 rfl, (m.least : Int), b2.get 6 rfl, (m.seq : Int), b2.get 7 rfl, (m.serial : Int), b2.get 8 rfl, ?_⟩
  have hcells := pl_cells m hm
  have b3 : BK (w2.alloc (.cells ((payL m).map fun v => Value.int .u64 (v : Nat)).toArray T.uint64)) w2.heap.size T.uint64 ((payL m).map fun v => Value.int .u64 (v : Nat)) := BK.new _ _ _
  have e3 := ext_alloc w2 (.cells ((payL m).map fun v => Value.int .u64 (v : Nat)).toArray T.uint64)
  rw [← hcells] at b3 e3
  generalize hc2 : w2.alloc _ = w3 at *
  rw [hcells] at b3
  have e03 := e02.tr e3
  have b13 := b2.ext e3
  have hlt64 : ∀ v ∈ payL m, v < 2 ^ 64 := fun v hv => by have := payL_lt hm v hv; omega
  refine ⟨fun n x w' => ∃ (i : Nat) (t : SV), x = (t, (i : Int)) ∧ i ≤ 8 ∧ n = 8 - i ∧ OwnB w' w3.heap.size t (pre (payL m) i) ∧ Ext w3 w', ⟨_, 0, ⟨none, 0, 0⟩, rfl, by omega, rfl, Own.nil _ _ _ _, Upd.refl _ _⟩, ?_⟩
  rintro n _ _ w4 ⟨i, t, rfl, hi, rfl, g2, e4⟩
  dsimp only
  refine cnd_dec (fun hlt => ?_) (fun hge => ?_)
  · have hi8 : i < 8 := by omega
    have hil : i < (payL m).length := hi8
    refine ⟨by omega, by omega, ((payL m)[i] : Int), ?_, ?_⟩
    · rw [Int.toNat_natCast, Nat.mul_one]
      exact (b3.ext e4).get i (by simp [List.getElem?_eq_getElem hil])
    have hpl : (pre (payL m) i).length ≤ 80 := by
      have := flat_var_len ((payL m).take i) fun v hv => hlt64 v (List.mem_of_mem_take hv)
      rw [List.length_take, payL_len] at this
      rw [pre]; omega
    have h10 := varB_10 (hlt64 _ (List.getElem_mem hil))
    refine CallT.mono (dunnageref01_Var.spec (payL m)[i] (hlt64 _ (List.getElem_mem hil)) w4) ?_
    rintro x w5 hx5
    obtain ⟨hx, e5⟩ : OwnB w5 w4.heap.size x (varB (payL m)[i]) ∧ Ext w4 w5 := ⟨hx5.1, hx5.2.1⟩
    have hxl := hx.lenB
    have htl := g2.lenB
    refine app_rd appB (e4.tr e5) (g2.ext e5) hx.rd (B8_one _) (fun hlt => ?_) ?_
    · have := nextcap_le hlt; omega
    intro t' w6 ho e6 _ _
    refine ⟨8 - (i + 1), by omega, i + 1, t', ?_, by omega, rfl, ?_, e6⟩
    · rw [i64_id (by omega) (by omega)]; simp
    · rw [pre_succ hil, OwnB, B8_append]; exact ho
  · have : i = 8 := by omega
    subst this
    rw [pre_all] at g2
    refine ⟨(m.turn : Int), (b13.ext e4).get 0 rfl, CallT.mono (ref03_Seal.spec 23 hu.turn g2.rd) ?_⟩
    rintro ⟨q, e⟩ w6 ⟨hq, he, e6⟩
    have hR : sealR 23 m.turn (payM m) = (wrM m, 0) := by
      have := payM_len hm
      rw [sealR, if_neg (by decide), if_neg (by omega)]; rfl
    rw [hR] at hq he
    have e04 := e03.tr e4
    exact ⟨hq.to e04, he, e04.tr e6⟩
end Go.Proofs
/- manifest.Read. Conditions: those of each contract. -/
namespace Go.Proofs
open Go Go.Vc Go.Crc
def MAns (R : Man × Int) (w : World) (r : M9 × Int) (w' : World) : Prop := r.1 = R.1.t ∧ r.2 = R.2 ∧ Ext w w'
theorem bytes_Equal.spec {a b : SV} {x y : List UInt8} {w : World} (ha : RdB w a x) (hb : RdB w b y) :
    CallT [.one .bool] Try.prog F.bytes_Equal [.slice a.a a.len a.cap, .slice b.a b.len b.cap] w fun r w' => r = (x == y) ∧ w = w' := by
  refine bytes_Equal.vc a b w _ ?_
  have key : ∀ {a : SV} {x : List UInt8}, RdB w a x → x.length = a.len ∧ (∀ A, a.a = some A → ∀ i, i < a.len → w.cell? (A.add i) = some (.int .u8 ((x.getD i 0).toNat : Int))) ∧ (a.a = none → x = []) := by
    intro a x ha
    refine ⟨ha.lenB.symm, fun A hA i hi => ?_, fun hn => ?_⟩
    · have hi' : i < x.length := by rw [← ha.lenB]; exact hi
      have := ha.at_ A hA i (.int .u8 (x[i].toNat)) (by simp [B8, hi'])
      rw [this]; simp [List.getD, hi']
    · have := ha.nil hn; rw [ha.lenB] at this; exact List.eq_nil_of_length_eq_zero this
  obtain ⟨a1, a2, a3⟩ := key ha
  obtain ⟨b1, b2, b3⟩ := key hb
  exact ⟨x, a1, a2, a3, y, b1, b2, b3, by simp, rfl⟩
/-- The answer is put into the result's variable. -/
theorem man_out {w w' : World} {b : Nat} {m : Man} {code : Int} {R : Man × Int} (hb : BK w' b T.api_Manifest zMan) (he : Ext w w') (hw : w.heap.size ≤ b) (hR : R = (m, code)) :
    canSt w' ⟨b, 0, none⟩ 9 ∧ ∃ x : M9, cellsAt (setCells w' ⟨b, 0, none⟩ 0 (m9v m.t)) ⟨b, 0, none⟩ (m9v x) ∧ MAns R w ((x.1, x.2.1, x.2.2.1, x.2.2.2.1, x.2.2.2.2.1, x.2.2.2.2.2.1, x.2.2.2.2.2.2.1, x.2.2.2.2.2.2.2.1, x.2.2.2.2.2.2.2.2), code) (setCells w' ⟨b, 0, none⟩ 0 (m9v m.t)) := by
  generalize hd : setCells w' _ 0 _ = w2
  obtain ⟨c, b2, e2, z2, _⟩ := bk_put (us := m9v m.t) hb he hw hd rfl
  subst hR
  exact ⟨c, m.t, b2.all, rfl, rfl, e2⟩
theorem man_err {w w' : World} {b : Nat} {code : Int} {R : Man × Int} (hb : BK w' b T.api_Manifest zMan) (he : Ext w w') (hw : w.heap.size ≤ b) (hR : R = (Man.z, code)) :
    canSt w' ⟨b, 0, none⟩ 9 ∧ ∃ x : M9, cellsAt (setCells w' ⟨b, 0, none⟩ 0 zMan) ⟨b, 0, none⟩ (m9v x) ∧ MAns R w ((x.1, x.2.1, x.2.2.1, x.2.2.2.1, x.2.2.2.2.1, x.2.2.2.2.2.1, x.2.2.2.2.2.2.1, x.2.2.2.2.2.2.2.1, x.2.2.2.2.2.2.2.2), code) (setCells w' ⟨b, 0, none⟩ 0 zMan) := by
  have h := man_out (m := Man.z) hb he hw hR
  rw [show m9v Man.z.t = zMan by simp [Man.z]] at h
  exact h
/-- Numbers in an array of eight. -/
def arr8 (l : List Nat) : List Value := (List.range 8).map fun k => .int .u64 ((l.getD k 0 : Nat) : Int)
theorem arr8_set {l : List Nat} {v : Nat} (_h : l.length < 8) : (arr8 l).set l.length (.int .u64 (v : Nat)) = arr8 (l ++ [v]) := by
  apply List.ext_getElem
  · simp [arr8]
  · intro i h1 h2
    have hi : i < 8 := by simpa [arr8] using h2
    rw [List.getElem_set]
    simp only [arr8, List.getElem_map, List.getElem_range, List.getD_eq_getElem?_getD]
    by_cases hil : i = l.length
    · subst hil; simp
    · rw [if_neg (fun h => hil h.symm)]
      by_cases h3 : i < l.length
      · rw [List.getElem?_append_left h3]
      · have q1 : l[i]? = none := List.getElem?_eq_none (by omega)
        have q2 : (l ++ [v])[i]? = none := List.getElem?_eq_none (by simp; omega)
        rw [q1, q2]
theorem arr8_get {l : List Nat} {i : Nat} (h : i < 8) (hl : l.length = 8) : (arr8 l)[i]? = some (.int .u64 ((l[i]'(by omega) : Nat) : Int)) := by
  simp [arr8, List.getElem?_range h, List.getD_eq_getElem?_getD, List.getElem?_eq_getElem (by omega : i < l.length)]
/-- So far as one has read, it is what any manifest of these bytes has. -/
def SoFar (pl : List UInt8) (vals : List Nat) (at_ : Nat) : Prop :=
  (∀ v ∈ vals, v < 2 ^ 64) ∧ at_ ≤ pl.length ∧ ∀ m, May m → payM m = pl → vals = (payL m).take vals.length ∧ at_ = (pre (payL m) vals.length).length
theorem SoFar.nil (pl : List UInt8) : SoFar pl [] 0 := ⟨by simp, by omega, fun m _ _ => ⟨rfl, rfl⟩⟩
theorem SoFar.read {pl : List UInt8} {vals : List Nat} {at_ : Nat} (h : SoFar pl vals at_) (h8 : vals.length < 8) {m : Man} (hm : May m) (hp : payM m = pl) :
    readVar pl (at_ : Int) = ((((payL m)[vals.length]'h8 : Nat) : Int), ((pre (payL m) (vals.length + 1)).length : Int), 0) := by
  rw [(h.2.2 m hm hp).2, ← hp]
  exact read_pre (fun v hv => by have := payL_lt hm v hv; omega) h8
theorem SoFar.next {pl : List UInt8} {vals : List Nat} {at_ u j : Nat} (h : SoFar pl vals at_) (h8 : vals.length < 8) (hu : u < 2 ^ 64) (hj : j ≤ pl.length) (hr : readVar pl (at_ : Int) = ((u : Int), (j : Int), 0)) : SoFar pl (vals ++ [u]) j := by
  refine ⟨fun v hv => ?_, hj, fun m hm hp => ?_⟩
  · rcases List.mem_append.1 hv with hv | hv
    · exact h.1 v hv
    · obtain rfl := by simpa using hv
      exact hu
  · have h1 := h.read h8 hm hp
    rw [hr] at h1
    simp only [Prod.mk.injEq, and_true] at h1
    have h2 : u = (payL m)[vals.length]'h8 := by omega
    have h3 : j = (pre (payL m) (vals.length + 1)).length := by omega
    refine ⟨?_, by simpa using h3⟩
    rw [List.length_append, List.length_singleton, List.take_succ_eq_append_getElem h8, ← (h.2.2 m hm hp).1, h2]
/-- What is read, as a manifest; it is the one, if there is one. -/
def cand (t : Nat) (l : List Nat) : Man := ⟨t, l.getD 0 0, IntKind.i64.wrap (min ((l.getD 1 0 : Nat) : Int) 65537), IntKind.i64.wrap (min ((l.getD 2 0 : Nat) : Int) 65537), l.getD 3 0, l.getD 4 0, l.getD 5 0, l.getD 6 0, l.getD 7 0⟩
theorem cand_u9 {t : Nat} {l : List Nat} (ht : t < 2 ^ 64) (hl : ∀ v ∈ l, v < 2 ^ 64) : U9 (cand t l) := by
  have h : ∀ i, l.getD i 0 < 2 ^ 64 := fun i => by
    rw [List.getD_eq_getElem?_getD]
    by_cases hi : i < l.length
    · rw [List.getElem?_eq_getElem hi]; exact hl _ (List.getElem_mem hi)
    · rw [List.getElem?_eq_none (by omega)]; simp
  have hw : ∀ n : Nat, -9223372036854775808 ≤ IntKind.i64.wrap (min (n : Int) 65537) ∧ IntKind.i64.wrap (min (n : Int) 65537) ≤ 9223372036854775807 := fun n => by
    rw [i64_id] <;> omega
  exact ⟨ht, h 0, hw _, hw _, h 3, h 4, h 5, h 6, h 7⟩
theorem cand_eq {pl : List UInt8} {vals : List Nat} {at_ : Nat} (h : SoFar pl vals at_) (h8 : vals.length = 8) {m : Man} (hm : May m) (hp : payM m = pl) : cand m.turn vals = m := by
  have h1 := (h.2.2 m hm hp).1
  rw [h8, List.take_of_length_le (by rw [payL_len]; exact Nat.le_refl _)] at h1
  unfold May at hm
  subst h1
  have w1 : IntKind.i64.wrap (min ((m.image.toNat : Nat) : Int) 65537) = m.image := by rw [i64_id] <;> omega
  have w2 : IntKind.i64.wrap (min ((m.parts.toNat : Nat) : Int) 65537) = m.parts := by rw [i64_id] <;> omega
  cases m
  simp only [cand, payL, List.getD_cons_zero, List.getD_cons_succ] at *
  rw [w1, w2]
set_option maxRecDepth 100000 in
set_option maxHeartbeats 1000000 in
theorem manifest_Read.spec {w : World} {s : SV} {b : List UInt8} (hb : RdB w s b) (hc : s.len ≤ s.cap) (hl : b.length ≤ 140737488351232) :
    CallT [.agg [.int .u64, .int .u64, .int .i64, .int .i64, .int .u64, .int .u64, .int .u64, .int .u64, .int .u64], .one (.int .i64)] Try.prog F.manifest_Read [.slice s.a s.len s.cap] w fun r w' => MAns (readM b) w r w' := by
  refine manifest_Read.vc s w _ ?_
  generalize hc1 : w.alloc _ = w1
  obtain ⟨b1, e1, z1⟩ := bk_new (T := T.api_Manifest) (vs := zMan) hc1
  refine CallT.mono (sector_Open.spec (hb.ext e1) hc hl) ?_
  rintro ⟨⟨k, t, q⟩, e⟩ w2 ⟨hk, ht, hq, he, e2⟩
  have htl := open_ok_turn (b := b)
  have hpl := open_pay_len (b := b)
  dsimp only at hk ht hq he ⊢
  subst hk ht he
  generalize hc3 : w2.alloc _ = w3
  generalize hd3 : setCells w3 _ 0 _ = w4
  obtain ⟨c4, b4, e4, z4⟩ := bk_mk (T := T.api_Sector) (z := zSec) (vs := secV (((openR b).1.1.toNat : Nat), ((openR b).1.2.1 : Nat), q)) hc3 hd3 rfl
  have e04 := (e1.tr e2).tr e4
  have b14 := (b1.ext e2).ext e4
  have hq4 := hq.rd.ext e4
  have hqn := hq.new
  have hlt := b1.lt
  have sz2 := e2.size
  refine ⟨c4, cnd_bne (fun hne => man_err b14 e04 (Nat.le_refl _) (readM_bad hne)) fun h0 => ⟨_, b4.get 0 rfl, cnd_beq (fun hk0 => ?_) fun hk0 => ?_⟩⟩
  · exact man_err b14 e04 (Nat.le_refl _) (readM_blank h0 (by rw [← UInt8.toNat_inj]; simpa using hk0))
  have hk0' : (openR b).1.1 ≠ 0 := fun h => hk0 (by rw [h]; rfl)
  have hform : (∀ m, May m → wrM m ≠ b) → readM b = (Man.z, 11) := readM_form h0 hk0'
  have hread : ∀ m, May m → wrM m = b → m.turn = (openR b).1.2.1 ∧ payM m = (openR b).1.2.2 := fun m hm h => by
    rw [← h, open_wr hm]; exact ⟨rfl, rfl⟩
  generalize (openR b).1.2.2 = pl at *
  generalize (openR b).1.2.1 = tn at *
  generalize hc5 : w4.alloc _ = w5
  obtain ⟨b5, e5, z5⟩ := bk_new (T := T.a8_uint64) (vs := arr8 []) hc5
  have e05 := e04.tr e5
  have b15 := b14.ext e5
  have b45 := b4.ext e5
  have hq5 := hq4.ext e5
  refine ⟨fun n x w' => ∃ (vals : List Nat) (at_ : Nat), x = ((at_ : Int), (vals.length : Int)) ∧ vals.length ≤ 8 ∧ n = 8 - vals.length ∧ SoFar pl vals at_ ∧ BK w' w4.heap.size T.a8_uint64 (arr8 vals) ∧ Upd (fun x => x = w4.heap.size) w5 w',
    ⟨_, [], 0, rfl, by simp, rfl, SoFar.nil _, b5, Upd.refl _ _⟩, ?_⟩
  rintro n _ _ w6 ⟨vals, at_, rfl, hv8, rfl, hS, b6, u6⟩
  have sz4 := e4.size
  have b46 := b45.upd u6 (by omega)
  have b16 := b15.upd u6 (by omega)
  have hq6 : RdB w6 q pl := hq5.upd u6 fun c hc h => by have := (hqn c hc).2; omega
  have e06 : Ext w w6 := e05.trans u6 fun x hx h => by have := e04.size; omega
  dsimp only
  refine cnd_dec (fun hlt8 => ?_) (fun hge => ?_)
  · have h8 : vals.length < 8 := by omega
    refine ⟨q, b46.get 2 rfl, CallT.mono (word_ReadVar.spec hq6 (by omega) (at_ : Int) (by have := hS.2.1; omega)) ?_⟩
    rintro ⟨v, nx, er⟩ w7 ⟨hr, e7⟩
    have b67 := b6.ext e7
    have b17 := b16.ext e7
    have e07 := e06.tr e7
    dsimp only
    have hst := b67.store vals.length (by simp [arr8]; exact h8) (.int .u64 v)
    obtain ⟨k1, k2, k3⟩ := hst
    have hit : Int.toNat (vals.length : Int) * 1 = vals.length := by simp
    rw [hit]
    refine ⟨by omega, by omega, k1, k2, ?_⟩
    have u8 : Upd (fun x => x = w4.heap.size) w7 (w7.setCell (Addr.add ⟨w4.heap.size, 0, none⟩ vals.length) (.int .u64 v)) := by
      rw [add_mk]; exact (Upd.refl (fun x => x = w4.heap.size) w7).set (p := ⟨w4.heap.size, 0 + vals.length, none⟩) (fun _ => rfl) _
    generalize w7.setCell (Addr.add ⟨w4.heap.size, 0, none⟩ vals.length) (.int .u64 v) = w8 at *
    have e08 : Ext w w8 := e07.trans u8 fun x hx h => by have := e04.size; omega
    have b18 := b17.upd u8 (by omega)
    refine cnd_bne (fun hne => ?_) (fun h00 => ?_)
    · refine man_err b18 e08 (Nat.le_refl _) (hform fun m hm hw => ?_)
      have h1 := hS.read h8 hm (hread m hm hw).2
      rw [← hr] at h1
      simp only [Prod.mk.injEq] at h1
      exact hne h1.2.2
    · have hr' : readVar pl (at_ : Int) = (v, nx, 0) := by rw [← hr, h00]
      obtain ⟨i, j, u, g1, rfl, rfl, g4, g5, g6⟩ := readVar_ok hr'
      rw [arr8_set h8] at k3
      refine ⟨8 - (vals.length + 1), by omega, vals ++ [u], j, ?_, by simp; omega, by simp, hS.next h8 g6 g5 hr', k3, (u6.tr (e7.to _)).tr u8⟩
      rw [i64_id (by omega) (by omega)]; simp
  · have h8 : vals.length = 8 := by omega
    have hget : ∀ i, (h : i < 8) → w6.cell? (Addr.add ⟨w4.heap.size, 0, none⟩ i) = some (.int .u64 ((vals.getD i 0 : Nat) : Int)) := fun i h => b6.get i (by
      rw [arr8_get h h8, List.getD_eq_getElem?_getD, List.getElem?_eq_getElem (by omega)]; rfl)
    refine ⟨(tn : Int), b46.get 1 rfl, by decide, by decide, _, hget 0 (by decide), by decide, by decide, _, hget 1 (by decide), by decide, by decide, _, hget 2 (by decide), by decide, by decide, _, hget 3 (by decide), by decide, by decide, _, hget 4 (by decide), by decide, by decide, _, hget 5 (by decide), by decide, by decide, _, hget 6 (by decide), by decide, by decide, _, hget 7 (by decide), ?_⟩
    generalize hc7 : w6.alloc _ = w7
    generalize hd7 : setCells w7 _ 0 _ = w8
    obtain ⟨c8, b8, e8, z8⟩ := bk_mk (T := T.api_Manifest) (z := zMan) (vs := m9v (cand tn vals).t) hc7 hd7 rfl
    have e08 := e06.tr e8
    have b18 := b16.ext e8
    refine ⟨c8, (cand tn vals).t, b8.all, CallT.mono (manifest_Write.spec (cand_u9 htl hS.1) w8) ?_⟩
    rintro ⟨o, er⟩ w9 ⟨ho, her, e9⟩
    dsimp only at ho her ⊢
    have e09 := e08.tr e9
    have b19 := b18.ext e9
    have b89 := b8.ext e9
    have hno : writeM (cand tn vals) ≠ (b, 0) → readM b = (Man.z, 11) := fun hne => hform fun m hm hw => by
      obtain ⟨g1, g2⟩ := hread m hm hw
      have := cand_eq hS h8 hm g2
      rw [g1] at this
      rw [this, writeM, if_pos hm, hw] at hne
      exact hne rfl
    refine ⟨fun x w' => w9 = w' ∧ (x = true → writeM (cand tn vals) ≠ (b, 0)) ∧ (x = false → writeM (cand tn vals) = (b, 0)), cnd_bne (fun hne => ⟨rfl, fun _ h => hne (by rw [her, h]), by simp⟩) (fun h00 => CallT.mono (bytes_Equal.spec (hb.ext e09) ho.rd) ?_), ?_⟩
    · rintro _ _ ⟨rfl, rfl⟩
      refine ⟨rfl, fun h hw => ?_, fun h => ?_⟩
      · rw [hw] at h; simp at h
      · have hbb : b = (writeM (cand tn vals)).1 := by simpa using h
        exact Prod.ext hbb.symm (by rw [← her, h00])
    rintro x _ _ ⟨rfl, hx1, hx2⟩
    cases x with
    | true => exact cnd_pos rfl (man_err b19 e09 (Nat.le_refl _) (hno (hx1 rfl)))
    | false =>
      have hw := hx2 rfl
      have hm : May (cand tn vals) := by
        by_cases h : May (cand tn vals)
        · exact h
        · rw [writeM, if_neg h] at hw; simp at hw
      have hwb : wrM (cand tn vals) = b := by rw [writeM, if_pos hm] at hw; exact congrArg Prod.fst hw
      have hR : readM b = (cand tn vals, 0) := by rw [← hwb]; exact readM_wr hm
      exact cnd_neg rfl ⟨(cand tn vals).t, b89.all, man_out b19 e09 (Nat.le_refl _) hR⟩
end Go.Proofs
/- Slices of texts: what reads as so many texts. Conditions: those that each lemma names. -/
namespace Go.Proofs
open Go Go.Vc
@[reducible] def encSV (s : SV) : List Value := [.slice s.a s.len s.cap]
@[reducible] def encTx (p : SV × List UInt8) : List Value := encSV p.1
/-- A slice that reads as these texts. -/
def RdL (w : World) (s : SV) (l : List (List UInt8)) : Prop := ∃ ps : List (SV × List UInt8), RdS encTx 1 w s ps ∧ ps.map Prod.snd = l ∧ ∀ p ∈ ps, RdB w p.1 p.2
theorem RdL.len {w : World} {s : SV} {l : List (List UInt8)} (h : RdL w s l) : s.len = l.length := by
  obtain ⟨ps, h1, rfl, _⟩ := h
  rw [h1.len, List.length_map]
theorem RdL.ext {w w' : World} {s : SV} {l : List (List UInt8)} (h : RdL w s l) (hu : Ext w w') : RdL w' s l := by
  obtain ⟨ps, h1, h2, h3⟩ := h
  exact ⟨ps, h1.ext hu, h2, fun p hp => (h3 p hp).ext hu⟩
/-- An element of it. -/
theorem RdL.at_ {w : World} {s : SV} {l : List (List UInt8)} (h : RdL w s l) {i : Nat} {x : List UInt8} (hx : l[i]? = some x) {K : Addr → Prop}
    (hk : ∀ A t, s.a = some A → w.cell? (A.add (i * 1)) = some (.slice t.a t.len t.cap) → RdB w t x → K A) : onP s.a K := by
  obtain ⟨ps, h1, rfl, h3⟩ := h
  rw [List.getElem?_map] at hx
  cases hp : ps[i]? with
  | none => rw [hp] at hx; simp at hx
  | some p =>
    rw [hp] at hx
    obtain rfl := Option.some.inj hx
    refine h1.get (i := i) (List.getElem?_eq_some_iff.1 hp).1 fun A hA => hk A p.1 hA ?_ (h3 p (List.mem_of_getElem? hp))
    exact h1.fld hp hA (k := 0) rfl
theorem B8_flat (l : List UInt8) : (l.flatMap fun b => [Value.int .u8 b.toNat]) = B8 l := by
  induction l with
  | nil => rfl
  | cons x r ih => rw [List.flatMap_cons, ih]; rfl
end Go.Proofs
/- dunnageref01.Reader: Num, Most. Conditions: those of each contract. -/
namespace Go.Proofs
open Go Go.Vc
/-- The reader's place and fault, and what Num makes of them. -/
def numR (l : List UInt8) (at_ err : Int) : Int × Int × Int :=
  if err ≠ 0 then (0, at_, err) else if (readVar l at_).2.2 ≠ 0 then (0, at_, (readVar l at_).2.2) else ((readVar l at_).1, (readVar l at_).2.1, 0)
def mostR (l : List UInt8) (at_ err n : Int) : Int × Int × Int :=
  if (numR l at_ err).2.2 ≠ 0 then (0, (numR l at_ err).2.1, (numR l at_ err).2.2) else if (numR l at_ err).1 > n then (0, (numR l at_ err).2.1, 11) else numR l at_ err
@[reducible] def rdV (s : SV) (at_ err : Int) : List Value := [.slice s.a s.len s.cap, .int .i64 at_, .int .i64 err]
theorem num.spec {w : World} {b : Nat} {s : SV} {l : List UInt8} {at_ err : Int} (hb : BK w b T.dunnageref01_Reader (rdV s at_ err)) (hs : RdB w s l) (hl : l.length ≤ 140737488351232) (ha : at_ ≤ 9223372036854775807) :
    CallT [.one (.int .u64)] Try.prog F.dunnageref01_Reader_Num [.pointer (some ⟨b, 0, none⟩)] w fun r w' => r = (numR l at_ err).1 ∧ BK w' b T.dunnageref01_Reader (rdV s (numR l at_ err).2.1 (numR l at_ err).2.2) ∧ Upd (fun x => x = b) w w' := by
  refine dunnageref01_Reader_Num.vc (some ⟨b, 0, none⟩) w _ ?_
  refine ⟨err, hb.get 2 rfl, cnd_bne (fun h => ?_) (fun h => ?_)⟩
  · rw [numR, if_pos h]; exact ⟨rfl, hb, Upd.refl _ _⟩
  have hd : BK w.drew b T.dunnageref01_Reader (rdV s at_ err) := hb
  have hlt := hb.lt
  refine ⟨fun w' => BK w' b T.dunnageref01_Reader (rdV s at_ err), hd, s, fun _ h => h.get 0 rfl, at_, fun _ h => h.get 1 rfl, CallT.mono (dunnageref01_ReadVar.spec (hs.ext (ext_drew _)) hl at_ ha) ?_⟩
  rintro ⟨v, n, e⟩ _ ⟨he, rfl⟩
  have b1 := hd
  have e01 : Ext w w.drew := ext_drew w
  have h1 : (readVar l at_).1 = v := by rw [← he]
  have h2 : (readVar l at_).2.1 = n := by rw [← he]
  have h3 : (readVar l at_).2.2 = e := by rw [← he]
  dsimp only
  refine cnd_bne (fun hne => ?_) (fun heq => ?_)
  · obtain ⟨c1, c2, c3⟩ := b1.store 2 (by simp) (.int .i64 e)
    refine ⟨c1, c2, ?_⟩
    rw [numR, if_neg (by simpa using h), h3, if_pos hne]
    exact ⟨rfl, c3, (e01.to _).set (p := Addr.add ⟨b, 0, none⟩ 2) (fun _ => by simp) _⟩
  · obtain ⟨c1, c2, c3⟩ := b1.store 1 (by simp) (.int .i64 n)
    refine ⟨c1, c2, ?_⟩
    rw [numR, if_neg (by simpa using h), h3, if_neg (by simpa using heq), h1, h2]
    refine ⟨rfl, ?_, (e01.to _).set (p := Addr.add ⟨b, 0, none⟩ 1) (fun _ => by simp) _⟩
    rw [h] at c3
    exact c3
theorem most.spec {w : World} {b : Nat} {s : SV} {l : List UInt8} {at_ err n : Int} (hb : BK w b T.dunnageref01_Reader (rdV s at_ err)) (hs : RdB w s l) (hl : l.length ≤ 140737488351232) (ha : at_ ≤ 9223372036854775807) (hn : 0 ≤ n ∧ n ≤ 1000000) (hv : 0 ≤ (numR l at_ err).1) :
    CallT [.one (.int .i64)] Try.prog F.dunnageref01_Reader_Most [.pointer (some ⟨b, 0, none⟩), .int .u64 n] w fun r w' => r = (mostR l at_ err n).1 ∧ BK w' b T.dunnageref01_Reader (rdV s (mostR l at_ err n).2.1 (mostR l at_ err n).2.2) ∧ Upd (fun x => x = b) w w' := by
  refine dunnageref01_Reader_Most.vc (some ⟨b, 0, none⟩) n w _ ?_
  refine CallT.mono (num.spec hb hs hl ha) ?_
  rintro _ w1 ⟨rfl, b1, u1⟩
  have hmo : mostR l at_ err n = if (numR l at_ err).2.2 ≠ 0 then (0, (numR l at_ err).2.1, (numR l at_ err).2.2) else if (numR l at_ err).1 > n then (0, (numR l at_ err).2.1, 11) else numR l at_ err := rfl
  generalize numR l at_ err = q at b1 hv hmo ⊢
  obtain ⟨x, p, e⟩ := q
  dsimp only at b1 hv hmo ⊢
  refine ⟨fun _ w' => BK w' b T.dunnageref01_Reader (rdV s (mostR l at_ err n).2.1 (mostR l at_ err n).2.2) ∧ Upd (fun x => x = b) w w', ⟨fun y w' => w1 = w' ∧ y = decide (e = 0 ∧ x > n), ⟨e, b1.get 2 rfl, cnd_beq (fun h => ⟨rfl, ?_⟩) (fun h => ⟨rfl, ?_⟩)⟩, ?_⟩, ?_⟩
  · rw [decide_eq_decide]; exact ⟨fun g => ⟨h, g⟩, fun g => g.2⟩
  · rw [eq_comm, decide_eq_false_iff_not]; exact fun g => h g.1
  · rintro _ _ _ ⟨rfl, rfl⟩
    refine cnd_dec (fun g => ?_) (fun g => ?_)
    · obtain ⟨c1, c2, c3⟩ := b1.store 2 (by simp) (.int .i64 11)
      rw [if_neg (by simpa using g.1), if_pos g.2] at hmo
      refine ⟨c1, c2, ?_, u1.set (p := Addr.add ⟨b, 0, none⟩ 2) (fun _ => by simp) _⟩
      rw [hmo]; exact c3
    · refine ⟨?_, u1⟩
      by_cases h : e = 0
      · rw [if_neg (by simpa using h), if_neg (fun h2 => g ⟨h, h2⟩)] at hmo
        rw [hmo]; exact b1
      · rw [if_pos h] at hmo
        rw [hmo]; exact b1
  rintro _ _ w2 ⟨b2, u2⟩
  refine ⟨_, b2.get 2 rfl, cnd_bne (fun h => ⟨?_, b2, u2⟩) (fun h => ⟨?_, b2, u2⟩)⟩
  · by_cases h1 : e = 0
    · by_cases h2 : x > n
      · rw [if_neg (by simpa using h1), if_pos h2] at hmo; rw [hmo]
      · rw [if_neg (by simpa using h1), if_neg h2] at hmo; rw [hmo] at h; exact absurd h1 h
    · rw [if_pos h1] at hmo; rw [hmo]
  · by_cases h1 : e = 0
    · by_cases h2 : x > n
      · rw [if_neg (by simpa using h1), if_pos h2] at hmo; rw [hmo] at h; exact absurd h (by simp)
      · rw [if_neg (by simpa using h1), if_neg h2] at hmo; rw [hmo]
        show IntKind.i64.wrap x = x
        rw [i64_id] <;> omega
    · rw [if_pos h1] at hmo; rw [hmo] at h; exact absurd h h1
end Go.Proofs
/- frame.Read and the document's: what any bytes are as a frame. Conditions: those of each contract. -/
namespace Go.Proofs
open Go Go.Vc
theorem numR_ok {l : List UInt8} {a e : Int} (h0 : 0 ≤ a) (h1 : a ≤ l.length) : 0 ≤ (numR l a e).1 ∧ (numR l a e).1 < 18446744073709551616 ∧ 0 ≤ (numR l a e).2.1 ∧ (numR l a e).2.1 ≤ l.length := by
  unfold numR
  split
  · exact ⟨by simp, by simp, h0, h1⟩
  split
  · exact ⟨by simp, by simp, h0, h1⟩
  · rename_i hz
    obtain ⟨i, j, u, g1, g2, g3, g4, g5, g6⟩ := readVar_ok (l := l) (a := a) (v := (readVar l a).1) (n := (readVar l a).2.1) (by
      have hz' : (readVar l a).2.2 = 0 := by simpa using hz
      rw [← hz'])
    refine ⟨?_, ?_, ?_, ?_⟩
    · show 0 ≤ (readVar l a).1; omega
    · show (readVar l a).1 < _; omega
    · show 0 ≤ (readVar l a).2.1; omega
    · show (readVar l a).2.1 ≤ _; omega
theorem mostR_ok {l : List UInt8} {a e n : Int} (h0 : 0 ≤ a) (h1 : a ≤ l.length) (hn : 0 ≤ n) : 0 ≤ (mostR l a e n).1 ∧ (mostR l a e n).1 ≤ n ∧ 0 ≤ (mostR l a e n).2.1 ∧ (mostR l a e n).2.1 ≤ l.length := by
  obtain ⟨g1, g2, g3, g4⟩ := numR_ok (e := e) h0 h1
  unfold mostR
  split
  · exact ⟨by simp, hn, g3, g4⟩
  split
  · exact ⟨by simp, hn, g3, g4⟩
  · exact ⟨g1, by omega, g3, g4⟩
end Go.Proofs
/- The document's Read of a manifest (this text is printed by tools/manrr.py). Conditions: those of each contract. -/
namespace Go.Proofs
open Go Go.Vc Go.Crc
/-- What the Reader says behind k calls. -/
def rk (pl : List UInt8) : Nat → Int × Int × Int
  | 0 => (0, 0, 0)
  | 1 => numR pl 0 0
  | 2 => mostR pl (rk pl 1).2.1 (rk pl 1).2.2 1
  | 3 => mostR pl (rk pl 2).2.1 (rk pl 2).2.2 65536
  | k + 1 => numR pl (rk pl k).2.1 (rk pl k).2.2
theorem rk_ok (pl : List UInt8) : ∀ k, 0 ≤ (rk pl k).1 ∧ (rk pl k).1 < 18446744073709551616 ∧ 0 ≤ (rk pl k).2.1 ∧ (rk pl k).2.1 ≤ pl.length ∧ (k = 2 → (rk pl k).1 ≤ 1) ∧ (k = 3 → (rk pl k).1 ≤ 65536)
  | 0 => by simp [rk]
  | 1 => by
    have := numR_ok (l := pl) (a := 0) (e := 0) (by omega) (by omega)
    rw [rk]; omega
  | 2 => by
    have h := rk_ok pl 1
    have := mostR_ok (l := pl) (e := (rk pl 1).2.2) (n := 1) h.2.2.1 h.2.2.2.1 (by omega)
    rw [rk]; omega
  | 3 => by
    have h := rk_ok pl 2
    have := mostR_ok (l := pl) (e := (rk pl 2).2.2) (n := 65536) h.2.2.1 h.2.2.2.1 (by omega)
    rw [rk]; omega
  | k + 4 => by
    have h := rk_ok pl (k + 3)
    have := numR_ok (l := pl) (e := (rk pl (k + 3)).2.2) h.2.2.1 h.2.2.2.1
    rw [show rk pl (k + 4) = numR pl (rk pl (k + 3)).2.1 (rk pl (k + 3)).2.2 from rfl]; omega
structure St (w0 : World) (rb : Nat) (q : SV) (pl : List UInt8) (k : Nat) (w1 : World) : Prop where
  bk : BK w1 rb T.dunnageref01_Reader (rdV q (rk pl k).2.1 (rk pl k).2.2)
  u : Upd (fun x => x = rb) w0 w1
variable {w0 w1 : World} {rb : Nat} {q : SV} {pl : List UInt8}
theorem St.alloc {k : Nat} (h : St w0 rb q pl k w1) (ob : Obj) : St w0 rb q pl k (w1.alloc ob) := ⟨h.bk.alloc ob, h.u.alloc ob⟩
theorem St.step (hq : RdB w0 q pl) (hqb : ∀ c, q.blk c → c ≠ rb) (hl : pl.length ≤ 1000) {k : Nat} (h : St w0 rb q pl k w1) (hr : rk pl (k + 1) = numR pl (rk pl k).2.1 (rk pl k).2.2) :
    CallT [.one (.int .u64)] Try.prog F.dunnageref01_Reader_Num [.pointer (some ⟨rb, 0, none⟩)] w1 fun r w2 => r = (rk pl (k + 1)).1 ∧ St w0 rb q pl (k + 1) w2 ∧ Upd (fun x => x = rb) w1 w2 := by
  have hb := rk_ok pl k
  refine CallT.mono (num.spec h.bk (hq.upd h.u fun c hc hx => hqb c hc hx) (by omega) (by omega)) ?_
  rintro _ w2 ⟨rfl, h2, h3⟩
  rw [← hr] at h2 ⊢
  exact ⟨rfl, ⟨h2, h.u.tr h3⟩, h3⟩
theorem St.stepM (hq : RdB w0 q pl) (hqb : ∀ c, q.blk c → c ≠ rb) (hl : pl.length ≤ 1000) {k : Nat} {n : Int} (hn : 0 ≤ n ∧ n ≤ 1000000) (h : St w0 rb q pl k w1) (hr : rk pl (k + 1) = mostR pl (rk pl k).2.1 (rk pl k).2.2 n) :
    CallT [.one (.int .i64)] Try.prog F.dunnageref01_Reader_Most [.pointer (some ⟨rb, 0, none⟩), .int .u64 n] w1 fun r w2 => r = (rk pl (k + 1)).1 ∧ St w0 rb q pl (k + 1) w2 ∧ Upd (fun x => x = rb) w1 w2 := by
  have hb := rk_ok pl k
  have hv := numR_ok (l := pl) (e := (rk pl k).2.2) hb.2.2.1 hb.2.2.2.1
  refine CallT.mono (most.spec h.bk (hq.upd h.u fun c hc hx => hqb c hc hx) (by omega) (by omega) hn hv.1) ?_
  rintro _ w2 ⟨rfl, h2, h3⟩
  rw [← hr] at h2 ⊢
  exact ⟨rfl, ⟨h2, h.u.tr h3⟩, h3⟩
/-- What is known at the end. -/
structure Fin8 (w0 : World) (rb : Nat) (q : SV) (pl : List UInt8) (tn : Int) (mb : Nat) (w1 : World) : Prop where
  st : St w0 rb q pl 8 w1
  m : BK w1 mb T.api_Manifest [.int .u64 tn, .int .u64 (rk pl 1).1, .int .i64 (rk pl 2).1, .int .i64 (rk pl 3).1, .int .u64 (rk pl 4).1, .int .u64 (rk pl 5).1, .int .u64 (rk pl 6).1, .int .u64 (rk pl 7).1, .int .u64 (rk pl 8).1]
  ge : w0.heap.size ≤ mb
theorem t8 {K : Option Addr → World → Prop} {tn : Int} (hK : ∀ mb w1, Fin8 w0 rb q pl tn mb w1 → K (some ⟨mb, 0, none⟩) w1) {mb : Nat} (hs : St w0 rb q pl 8 w1) (hb : BK w1 mb T.api_Manifest zMan) (hm : mb ≠ rb) (hg : w0.heap.size ≤ mb) :
    canSt w1 ⟨mb, 0, none⟩ 9 ∧ K (some ⟨mb, 0, none⟩) (setCells w1 ⟨mb, 0, none⟩ 0 [.int .u64 tn, .int .u64 (rk pl 1).1, .int .i64 (rk pl 2).1, .int .i64 (rk pl 3).1, .int .u64 (rk pl 4).1, .int .u64 (rk pl 5).1, .int .u64 (rk pl 6).1, .int .u64 (rk pl 7).1, .int .u64 (rk pl 8).1]) := by
  refine ⟨hb.can (by simp), hK mb _ ⟨⟨hs.bk.sets_ne (A := ⟨mb, 0, none⟩) (fun h => hm h.symm) 0 _, ?_⟩, hb.set (by simp), hg⟩⟩
  exact hs.u.setCells (p := ⟨mb, 0, none⟩) (fun h => by have h' : mb < w0.heap.size := h; omega) 0 _
theorem t7 {K : Option Addr → World → Prop} {tn : Int} (hq : RdB w0 q pl) (hqb : ∀ c, q.blk c → c ≠ rb) (hl : pl.length ≤ 1000) (hK : ∀ mb w1, Fin8 w0 rb q pl tn mb w1 → K (some ⟨mb, 0, none⟩) w1) {mb : Nat} (hs : St w0 rb q pl 7 w1) (hb : BK w1 mb T.api_Manifest zMan) (hm : mb ≠ rb) (hg : w0.heap.size ≤ mb) :
    CallT [.one (.int .u64)] Try.prog F.dunnageref01_Reader_Num [.pointer (some ⟨rb, 0, none⟩)] w1 fun x8 v8 => Upd (fun x => x = rb) w0 v8 ∧ canSt v8 ⟨mb, 0, none⟩ 9 ∧ K (some ⟨mb, 0, none⟩) (setCells v8 ⟨mb, 0, none⟩ 0 [.int .u64 tn, .int .u64 (rk pl 1).1, .int .i64 (rk pl 2).1, .int .i64 (rk pl 3).1, .int .u64 (rk pl 4).1, .int .u64 (rk pl 5).1, .int .u64 (rk pl 6).1, .int .u64 (rk pl 7).1, .int .u64 x8]) := by
  refine CallT.mono (St.step hq hqb hl hs rfl) ?_
  rintro _ w2 ⟨rfl, h2, h3⟩
  exact ⟨h2.u, t8 hK h2 (hb.upd h3 hm) hm hg⟩
theorem t6 {K : Option Addr → World → Prop} {tn : Int} (hq : RdB w0 q pl) (hqb : ∀ c, q.blk c → c ≠ rb) (hl : pl.length ≤ 1000) (hK : ∀ mb w1, Fin8 w0 rb q pl tn mb w1 → K (some ⟨mb, 0, none⟩) w1) {mb : Nat} (hs : St w0 rb q pl 6 w1) (hb : BK w1 mb T.api_Manifest zMan) (hm : mb ≠ rb) (hg : w0.heap.size ≤ mb) :
    CallT [.one (.int .u64)] Try.prog F.dunnageref01_Reader_Num [.pointer (some ⟨rb, 0, none⟩)] w1 fun x7 v7 => Upd (fun x => x = rb) w0 v7 ∧ CallT [.one (.int .u64)] Try.prog F.dunnageref01_Reader_Num [.pointer (some ⟨rb, 0, none⟩)] v7 fun x8 v8 => Upd (fun x => x = rb) w0 v8 ∧ canSt v8 ⟨mb, 0, none⟩ 9 ∧ K (some ⟨mb, 0, none⟩) (setCells v8 ⟨mb, 0, none⟩ 0 [.int .u64 tn, .int .u64 (rk pl 1).1, .int .i64 (rk pl 2).1, .int .i64 (rk pl 3).1, .int .u64 (rk pl 4).1, .int .u64 (rk pl 5).1, .int .u64 (rk pl 6).1, .int .u64 x7, .int .u64 x8]) := by
  refine CallT.mono (St.step hq hqb hl hs rfl) ?_
  rintro _ w2 ⟨rfl, h2, h3⟩
  exact ⟨h2.u, t7 hq hqb hl hK h2 (hb.upd h3 hm) hm hg⟩
theorem t5 {K : Option Addr → World → Prop} {tn : Int} (hq : RdB w0 q pl) (hqb : ∀ c, q.blk c → c ≠ rb) (hl : pl.length ≤ 1000) (hK : ∀ mb w1, Fin8 w0 rb q pl tn mb w1 → K (some ⟨mb, 0, none⟩) w1) {mb : Nat} (hs : St w0 rb q pl 5 w1) (hb : BK w1 mb T.api_Manifest zMan) (hm : mb ≠ rb) (hg : w0.heap.size ≤ mb) :
    CallT [.one (.int .u64)] Try.prog F.dunnageref01_Reader_Num [.pointer (some ⟨rb, 0, none⟩)] w1 fun x6 v6 => Upd (fun x => x = rb) w0 v6 ∧ CallT [.one (.int .u64)] Try.prog F.dunnageref01_Reader_Num [.pointer (some ⟨rb, 0, none⟩)] v6 fun x7 v7 => Upd (fun x => x = rb) w0 v7 ∧ CallT [.one (.int .u64)] Try.prog F.dunnageref01_Reader_Num [.pointer (some ⟨rb, 0, none⟩)] v7 fun x8 v8 => Upd (fun x => x = rb) w0 v8 ∧ canSt v8 ⟨mb, 0, none⟩ 9 ∧ K (some ⟨mb, 0, none⟩) (setCells v8 ⟨mb, 0, none⟩ 0 [.int .u64 tn, .int .u64 (rk pl 1).1, .int .i64 (rk pl 2).1, .int .i64 (rk pl 3).1, .int .u64 (rk pl 4).1, .int .u64 (rk pl 5).1, .int .u64 x6, .int .u64 x7, .int .u64 x8]) := by
  refine CallT.mono (St.step hq hqb hl hs rfl) ?_
  rintro _ w2 ⟨rfl, h2, h3⟩
  exact ⟨h2.u, t6 hq hqb hl hK h2 (hb.upd h3 hm) hm hg⟩
theorem t4 {K : Option Addr → World → Prop} {tn : Int} (hq : RdB w0 q pl) (hqb : ∀ c, q.blk c → c ≠ rb) (hl : pl.length ≤ 1000) (hK : ∀ mb w1, Fin8 w0 rb q pl tn mb w1 → K (some ⟨mb, 0, none⟩) w1) {mb : Nat} (hs : St w0 rb q pl 4 w1) (hb : BK w1 mb T.api_Manifest zMan) (hm : mb ≠ rb) (hg : w0.heap.size ≤ mb) :
    CallT [.one (.int .u64)] Try.prog F.dunnageref01_Reader_Num [.pointer (some ⟨rb, 0, none⟩)] w1 fun x5 v5 => Upd (fun x => x = rb) w0 v5 ∧ CallT [.one (.int .u64)] Try.prog F.dunnageref01_Reader_Num [.pointer (some ⟨rb, 0, none⟩)] v5 fun x6 v6 => Upd (fun x => x = rb) w0 v6 ∧ CallT [.one (.int .u64)] Try.prog F.dunnageref01_Reader_Num [.pointer (some ⟨rb, 0, none⟩)] v6 fun x7 v7 => Upd (fun x => x = rb) w0 v7 ∧ CallT [.one (.int .u64)] Try.prog F.dunnageref01_Reader_Num [.pointer (some ⟨rb, 0, none⟩)] v7 fun x8 v8 => Upd (fun x => x = rb) w0 v8 ∧ canSt v8 ⟨mb, 0, none⟩ 9 ∧ K (some ⟨mb, 0, none⟩) (setCells v8 ⟨mb, 0, none⟩ 0 [.int .u64 tn, .int .u64 (rk pl 1).1, .int .i64 (rk pl 2).1, .int .i64 (rk pl 3).1, .int .u64 (rk pl 4).1, .int .u64 x5, .int .u64 x6, .int .u64 x7, .int .u64 x8]) := by
  refine CallT.mono (St.step hq hqb hl hs rfl) ?_
  rintro _ w2 ⟨rfl, h2, h3⟩
  exact ⟨h2.u, t5 hq hqb hl hK h2 (hb.upd h3 hm) hm hg⟩
theorem t3 {K : Option Addr → World → Prop} {tn : Int} (hq : RdB w0 q pl) (hqb : ∀ c, q.blk c → c ≠ rb) (hl : pl.length ≤ 1000) (hK : ∀ mb w1, Fin8 w0 rb q pl tn mb w1 → K (some ⟨mb, 0, none⟩) w1) {mb : Nat} (hs : St w0 rb q pl 3 w1) (hb : BK w1 mb T.api_Manifest zMan) (hm : mb ≠ rb) (hg : w0.heap.size ≤ mb) :
    CallT [.one (.int .u64)] Try.prog F.dunnageref01_Reader_Num [.pointer (some ⟨rb, 0, none⟩)] w1 fun x4 v4 => Upd (fun x => x = rb) w0 v4 ∧ CallT [.one (.int .u64)] Try.prog F.dunnageref01_Reader_Num [.pointer (some ⟨rb, 0, none⟩)] v4 fun x5 v5 => Upd (fun x => x = rb) w0 v5 ∧ CallT [.one (.int .u64)] Try.prog F.dunnageref01_Reader_Num [.pointer (some ⟨rb, 0, none⟩)] v5 fun x6 v6 => Upd (fun x => x = rb) w0 v6 ∧ CallT [.one (.int .u64)] Try.prog F.dunnageref01_Reader_Num [.pointer (some ⟨rb, 0, none⟩)] v6 fun x7 v7 => Upd (fun x => x = rb) w0 v7 ∧ CallT [.one (.int .u64)] Try.prog F.dunnageref01_Reader_Num [.pointer (some ⟨rb, 0, none⟩)] v7 fun x8 v8 => Upd (fun x => x = rb) w0 v8 ∧ canSt v8 ⟨mb, 0, none⟩ 9 ∧ K (some ⟨mb, 0, none⟩) (setCells v8 ⟨mb, 0, none⟩ 0 [.int .u64 tn, .int .u64 (rk pl 1).1, .int .i64 (rk pl 2).1, .int .i64 (rk pl 3).1, .int .u64 x4, .int .u64 x5, .int .u64 x6, .int .u64 x7, .int .u64 x8]) := by
  refine CallT.mono (St.step hq hqb hl hs rfl) ?_
  rintro _ w2 ⟨rfl, h2, h3⟩
  exact ⟨h2.u, t4 hq hqb hl hK h2 (hb.upd h3 hm) hm hg⟩
theorem t2 {K : Option Addr → World → Prop} {tn : Int} (hq : RdB w0 q pl) (hqb : ∀ c, q.blk c → c ≠ rb) (hl : pl.length ≤ 1000) (hK : ∀ mb w1, Fin8 w0 rb q pl tn mb w1 → K (some ⟨mb, 0, none⟩) w1) {mb : Nat} (hs : St w0 rb q pl 2 w1) (hb : BK w1 mb T.api_Manifest zMan) (hm : mb ≠ rb) (hg : w0.heap.size ≤ mb) :
    CallT [.one (.int .i64)] Try.prog F.dunnageref01_Reader_Most [.pointer (some ⟨rb, 0, none⟩), .int .u64 65536] w1 fun x3 v3 => Upd (fun x => x = rb) w0 v3 ∧ CallT [.one (.int .u64)] Try.prog F.dunnageref01_Reader_Num [.pointer (some ⟨rb, 0, none⟩)] v3 fun x4 v4 => Upd (fun x => x = rb) w0 v4 ∧ CallT [.one (.int .u64)] Try.prog F.dunnageref01_Reader_Num [.pointer (some ⟨rb, 0, none⟩)] v4 fun x5 v5 => Upd (fun x => x = rb) w0 v5 ∧ CallT [.one (.int .u64)] Try.prog F.dunnageref01_Reader_Num [.pointer (some ⟨rb, 0, none⟩)] v5 fun x6 v6 => Upd (fun x => x = rb) w0 v6 ∧ CallT [.one (.int .u64)] Try.prog F.dunnageref01_Reader_Num [.pointer (some ⟨rb, 0, none⟩)] v6 fun x7 v7 => Upd (fun x => x = rb) w0 v7 ∧ CallT [.one (.int .u64)] Try.prog F.dunnageref01_Reader_Num [.pointer (some ⟨rb, 0, none⟩)] v7 fun x8 v8 => Upd (fun x => x = rb) w0 v8 ∧ canSt v8 ⟨mb, 0, none⟩ 9 ∧ K (some ⟨mb, 0, none⟩) (setCells v8 ⟨mb, 0, none⟩ 0 [.int .u64 tn, .int .u64 (rk pl 1).1, .int .i64 (rk pl 2).1, .int .i64 x3, .int .u64 x4, .int .u64 x5, .int .u64 x6, .int .u64 x7, .int .u64 x8]) := by
  refine CallT.mono (St.stepM hq hqb hl (n := 65536) (by decide) hs rfl) ?_
  rintro _ w2 ⟨rfl, h2, h3⟩
  exact ⟨h2.u, t3 hq hqb hl hK h2 (hb.upd h3 hm) hm hg⟩
theorem t1 {K : Option Addr → World → Prop} {tn : Int} (hq : RdB w0 q pl) (hqb : ∀ c, q.blk c → c ≠ rb) (hl : pl.length ≤ 1000) (hK : ∀ mb w1, Fin8 w0 rb q pl tn mb w1 → K (some ⟨mb, 0, none⟩) w1) {mb : Nat} (hs : St w0 rb q pl 1 w1) (hb : BK w1 mb T.api_Manifest zMan) (hm : mb ≠ rb) (hg : w0.heap.size ≤ mb) :
    CallT [.one (.int .i64)] Try.prog F.dunnageref01_Reader_Most [.pointer (some ⟨rb, 0, none⟩), .int .u64 1] w1 fun x2 v2 => Upd (fun x => x = rb) w0 v2 ∧ CallT [.one (.int .i64)] Try.prog F.dunnageref01_Reader_Most [.pointer (some ⟨rb, 0, none⟩), .int .u64 65536] v2 fun x3 v3 => Upd (fun x => x = rb) w0 v3 ∧ CallT [.one (.int .u64)] Try.prog F.dunnageref01_Reader_Num [.pointer (some ⟨rb, 0, none⟩)] v3 fun x4 v4 => Upd (fun x => x = rb) w0 v4 ∧ CallT [.one (.int .u64)] Try.prog F.dunnageref01_Reader_Num [.pointer (some ⟨rb, 0, none⟩)] v4 fun x5 v5 => Upd (fun x => x = rb) w0 v5 ∧ CallT [.one (.int .u64)] Try.prog F.dunnageref01_Reader_Num [.pointer (some ⟨rb, 0, none⟩)] v5 fun x6 v6 => Upd (fun x => x = rb) w0 v6 ∧ CallT [.one (.int .u64)] Try.prog F.dunnageref01_Reader_Num [.pointer (some ⟨rb, 0, none⟩)] v6 fun x7 v7 => Upd (fun x => x = rb) w0 v7 ∧ CallT [.one (.int .u64)] Try.prog F.dunnageref01_Reader_Num [.pointer (some ⟨rb, 0, none⟩)] v7 fun x8 v8 => Upd (fun x => x = rb) w0 v8 ∧ canSt v8 ⟨mb, 0, none⟩ 9 ∧ K (some ⟨mb, 0, none⟩) (setCells v8 ⟨mb, 0, none⟩ 0 [.int .u64 tn, .int .u64 (rk pl 1).1, .int .i64 x2, .int .i64 x3, .int .u64 x4, .int .u64 x5, .int .u64 x6, .int .u64 x7, .int .u64 x8]) := by
  refine CallT.mono (St.stepM hq hqb hl (n := 1) (by decide) hs rfl) ?_
  rintro _ w2 ⟨rfl, h2, h3⟩
  exact ⟨h2.u, t2 hq hqb hl hK h2 (hb.upd h3 hm) hm hg⟩
theorem t0 {K : Option Addr → World → Prop} {tn : Int} (hq : RdB w0 q pl) (hqb : ∀ c, q.blk c → c ≠ rb) (hl : pl.length ≤ 1000) (hK : ∀ mb w1, Fin8 w0 rb q pl tn mb w1 → K (some ⟨mb, 0, none⟩) w1) {mb : Nat} (hs : St w0 rb q pl 0 w1) (hb : BK w1 mb T.api_Manifest zMan) (hm : mb ≠ rb) (hg : w0.heap.size ≤ mb) :
    CallT [.one (.int .u64)] Try.prog F.dunnageref01_Reader_Num [.pointer (some ⟨rb, 0, none⟩)] w1 fun x1 v1 => Upd (fun x => x = rb) w0 v1 ∧ CallT [.one (.int .i64)] Try.prog F.dunnageref01_Reader_Most [.pointer (some ⟨rb, 0, none⟩), .int .u64 1] v1 fun x2 v2 => Upd (fun x => x = rb) w0 v2 ∧ CallT [.one (.int .i64)] Try.prog F.dunnageref01_Reader_Most [.pointer (some ⟨rb, 0, none⟩), .int .u64 65536] v2 fun x3 v3 => Upd (fun x => x = rb) w0 v3 ∧ CallT [.one (.int .u64)] Try.prog F.dunnageref01_Reader_Num [.pointer (some ⟨rb, 0, none⟩)] v3 fun x4 v4 => Upd (fun x => x = rb) w0 v4 ∧ CallT [.one (.int .u64)] Try.prog F.dunnageref01_Reader_Num [.pointer (some ⟨rb, 0, none⟩)] v4 fun x5 v5 => Upd (fun x => x = rb) w0 v5 ∧ CallT [.one (.int .u64)] Try.prog F.dunnageref01_Reader_Num [.pointer (some ⟨rb, 0, none⟩)] v5 fun x6 v6 => Upd (fun x => x = rb) w0 v6 ∧ CallT [.one (.int .u64)] Try.prog F.dunnageref01_Reader_Num [.pointer (some ⟨rb, 0, none⟩)] v6 fun x7 v7 => Upd (fun x => x = rb) w0 v7 ∧ CallT [.one (.int .u64)] Try.prog F.dunnageref01_Reader_Num [.pointer (some ⟨rb, 0, none⟩)] v7 fun x8 v8 => Upd (fun x => x = rb) w0 v8 ∧ canSt v8 ⟨mb, 0, none⟩ 9 ∧ K (some ⟨mb, 0, none⟩) (setCells v8 ⟨mb, 0, none⟩ 0 [.int .u64 tn, .int .u64 x1, .int .i64 x2, .int .i64 x3, .int .u64 x4, .int .u64 x5, .int .u64 x6, .int .u64 x7, .int .u64 x8]) := by
  refine CallT.mono (St.step hq hqb hl hs rfl) ?_
  rintro _ w2 ⟨rfl, h2, h3⟩
  exact ⟨h2.u, t1 hq hqb hl hK h2 (hb.upd h3 hm) hm hg⟩
theorem rk_man {pl : List UInt8} {m : Man} (hm : May m) (hp : payM m = pl) : ∀ k, 1 ≤ k → (h : k ≤ 8) → rk pl k = ((((payL m)[k - 1]'(by rw [payL_len]; omega) : Nat) : Int), ((pre (payL m) k).length : Int), 0) := by
  have hlt : ∀ v ∈ payL m, v < 2 ^ 64 := fun v hv => by have := payL_lt hm v hv; omega
  have base : ∀ k, (h : k < 8) → ∀ a, a = ((pre (payL m) k).length : Int) → numR pl a 0 = ((((payL m)[k]'(by rw [payL_len]; omega) : Nat) : Int), ((pre (payL m) (k + 1)).length : Int), 0) := fun k h a ha => by
    have h1 := read_pre hlt (i := k) (by rw [payL_len]; omega)
    have h2 : (payL m).flatMap varB = pl := hp
    rw [h2] at h1
    rw [numR, if_neg (by simp), ha, h1, if_neg (by simp)]
  unfold May at hm
  intro k h1 h8
  induction k with
  | zero => omega
  | succ k ih =>
    by_cases hk0 : k = 0
    · subst hk0; exact base 0 (by decide) 0 rfl
    have ih' := ih (by omega) (by omega)
    have hb := base k (by omega) (rk pl k).2.1 (by rw [ih'])
    by_cases hk1 : k = 1
    · subst hk1
      show mostR pl (rk pl 1).2.1 (rk pl 1).2.2 1 = _
      rw [mostR, ih'] at *
      rw [hb, if_neg (by simp), if_neg]
      simp only [payL, List.getElem_cons_succ, List.getElem_cons_zero]; omega
    by_cases hk2 : k = 2
    · subst hk2
      show mostR pl (rk pl 2).2.1 (rk pl 2).2.2 65536 = _
      rw [mostR, ih'] at *
      rw [hb, if_neg (by simp), if_neg]
      simp only [payL, List.getElem_cons_succ, List.getElem_cons_zero]; omega
    obtain ⟨j, rfl⟩ : ∃ j, k = j + 3 := ⟨k - 3, by omega⟩
    show numR pl (rk pl (j + 3)).2.1 (rk pl (j + 3)).2.2 = _
    rw [ih'] at *
    exact hb
def manK (tn : Nat) (pl : List UInt8) : Man := ⟨tn, (rk pl 1).1.toNat, (rk pl 2).1, (rk pl 3).1, (rk pl 4).1.toNat, (rk pl 5).1.toNat, (rk pl 6).1.toNat, (rk pl 7).1.toNat, (rk pl 8).1.toNat⟩
theorem manK_u9 {tn : Nat} (ht : tn < 2 ^ 64) (pl : List UInt8) : U9 (manK tn pl) := by
  have h : ∀ k, (rk pl k).1.toNat < 2 ^ 64 := fun k => by have := rk_ok pl k; omega
  have h2 := rk_ok pl 2
  have h3 := rk_ok pl 3
  exact ⟨ht, h 1, by show _ ≤ (rk pl 2).1 ∧ (rk pl 2).1 ≤ _; omega, by show _ ≤ (rk pl 3).1 ∧ (rk pl 3).1 ≤ _; omega, h 4, h 5, h 6, h 7, h 8⟩
theorem manK_vs (tn : Nat) (pl : List UInt8) : m9v (manK tn pl).t = [.int .u64 (tn : Int), .int .u64 (rk pl 1).1, .int .i64 (rk pl 2).1, .int .i64 (rk pl 3).1, .int .u64 (rk pl 4).1, .int .u64 (rk pl 5).1, .int .u64 (rk pl 6).1, .int .u64 (rk pl 7).1, .int .u64 (rk pl 8).1] := by
  have h : ∀ k, (((rk pl k).1.toNat : Nat) : Int) = (rk pl k).1 := fun k => by have := rk_ok pl k; omega
  simp only [m9v, manK, h]
theorem manK_eq {pl : List UInt8} {m : Man} (hm : May m) (hp : payM m = pl) : manK m.turn pl = m ∧ (rk pl 8).2.2 = 0 := by
  have h := rk_man hm hp
  have g1 := h 1 (by decide) (by decide)
  have g2 := h 2 (by decide) (by decide)
  have g3 := h 3 (by decide) (by decide)
  have g4 := h 4 (by decide) (by decide)
  have g5 := h 5 (by decide) (by decide)
  have g6 := h 6 (by decide) (by decide)
  have g7 := h 7 (by decide) (by decide)
  have g8 := h 8 (by decide) (by decide)
  refine ⟨?_, by rw [g8]⟩
  unfold May at hm
  rw [manK, g1, g2, g3, g4, g5, g6, g7, g8]
  have w1 : ((m.image.toNat : Nat) : Int) = m.image := by omega
  have w2 : ((m.parts.toNat : Nat) : Int) = m.parts := by omega
  simp only [payL, List.getElem_cons_succ, List.getElem_cons_zero, Int.toNat_natCast, w1, w2]
  rfl
set_option maxRecDepth 100000 in
set_option maxHeartbeats 1000000 in
theorem ref27_Read.spec {w : World} {s : SV} {b : List UInt8} (hb : RdB w s b) (hc : s.len ≤ s.cap) (hl : b.length ≤ 140737488351232) :
    CallT [.agg [.int .u64, .int .u64, .int .i64, .int .i64, .int .u64, .int .u64, .int .u64, .int .u64, .int .u64], .one (.int .i64)] Try.prog F.dunnageref27_Read [.slice s.a s.len s.cap] w fun r w' => MAns (readM b) w r w' := by
  refine dunnageref27_Read.vc s w _ ?_
  generalize hc1 : w.alloc _ = w1
  obtain ⟨b1, e1, z1⟩ := bk_new (T := T.api_Manifest) (vs := zMan) hc1
  refine CallT.mono (ref03_Open.spec (hb.ext e1) hc hl) ?_
  rintro ⟨⟨k, t, q⟩, e⟩ w2 ⟨hk, ht, hq, he, e2⟩
  have htl := open_ok_turn (b := b)
  have hpl := open_pay_len (b := b)
  dsimp only at hk ht hq he ⊢
  subst hk ht he
  generalize hc3 : w2.alloc _ = w3
  generalize hd3 : setCells w3 _ 0 _ = w4
  obtain ⟨c4, b4, e4, z4⟩ := bk_mk (T := T.api_Sector) (z := zSec) (vs := secV (((openR b).1.1.toNat : Nat), ((openR b).1.2.1 : Nat), q)) hc3 hd3 rfl
  have e04 := (e1.tr e2).tr e4
  have b14 := (b1.ext e2).ext e4
  have hq4 := hq.rd.ext e4
  have hqn := hq.new
  have hlt := b1.lt
  have sz2 := e2.size
  refine ⟨c4, cnd_bne (fun hne => man_err b14 e04 (Nat.le_refl _) (readM_bad hne)) fun h0 => ⟨_, b4.get 0 rfl, cnd_beq (fun hk0 => ?_) fun hk0 => ?_⟩⟩
  · exact man_err b14 e04 (Nat.le_refl _) (readM_blank h0 (by rw [← UInt8.toNat_inj]; simpa using hk0))
  have hk0' : (openR b).1.1 ≠ 0 := fun h => hk0 (by rw [h]; rfl)
  have hform : (∀ m, May m → wrM m ≠ b) → readM b = (Man.z, 11) := readM_form h0 hk0'
  have hread : ∀ m, May m → wrM m = b → m.turn = (openR b).1.2.1 ∧ payM m = (openR b).1.2.2 := fun m hm h => by
    rw [← h, open_wr hm]; exact ⟨rfl, rfl⟩
  generalize (openR b).1.2.2 = pl at *
  generalize (openR b).1.2.1 = tn at *
  refine ⟨q, b4.get 2 rfl, ?_⟩
  generalize hc5 : w4.alloc _ = w5
  obtain ⟨b5, e5, z5⟩ := bk_new (T := T.dunnageref01_Reader) (vs := rdV q 0 0) hc5
  have e06 := (e04.tr e5).tr (ext_drew w5)
  have b16 := (b14.ext e5).ext (ext_drew w5)
  have b46 := (b4.ext e5).ext (ext_drew w5)
  have hq6 := (hq4.ext e5).ext (ext_drew w5)
  have b56 := b5.ext (ext_drew w5)
  have sz4 := e4.size
  have hlt6 := b56.lt
  generalize w5.drew = w0 at *
  have hqb : ∀ c, q.blk c → c ≠ w4.heap.size := fun c hc h => by have := (hqn c hc).2; omega
  have s0 : St w0 w4.heap.size q pl 0 w0 := ⟨b56, Upd.refl _ _⟩
  have hl1 : pl.length ≤ 1000 := by omega
  have hz : w0.heap.size ≠ w4.heap.size := by omega
  have hp : ∀ {v : World}, Upd (fun x => x = w4.heap.size) w0 v → v.heap.size ≠ w4.heap.size ∧ w0.heap.size ≤ v.heap.size := fun u => by have := u.size; omega
  refine ⟨fun x w' => ∃ mb, x = some ⟨mb, 0, none⟩ ∧ Fin8 w0 w4.heap.size q pl tn mb w', ⟨fun v => Upd (fun x => x = w4.heap.size) w0 v, Upd.refl _ _, (tn : Int), fun v hv => (b46.upd hv (by omega)).get 1 rfl, ?_⟩, ?_⟩
  · have hK : ∀ mb v, Fin8 w0 w4.heap.size q pl tn mb v → ∃ mb', some (⟨mb, 0, none⟩ : Addr) = some ⟨mb', 0, none⟩ ∧ Fin8 w0 w4.heap.size q pl tn mb' v := fun mb v h => ⟨mb, rfl, h⟩
    refine ⟨CallT.mono (St.step hq6 hqb hl1 s0 rfl) ?_, (s0.alloc _).u, t0 (K := fun x w' => ∃ mb, x = some ⟨mb, 0, none⟩ ∧ Fin8 w0 w4.heap.size q pl tn mb w') hq6 hqb hl1 hK (s0.alloc _) (BK.new _ T.api_Manifest zMan) (hp s0.u).1 (hp s0.u).2⟩
    rintro _ v1 ⟨rfl, s1, _⟩
    refine ⟨s1.u, ?_⟩
    refine ⟨CallT.mono (St.stepM hq6 hqb hl1 (n := 1) (by decide) s1 rfl) ?_, (s1.alloc _).u, t1 (K := fun x w' => ∃ mb, x = some ⟨mb, 0, none⟩ ∧ Fin8 w0 w4.heap.size q pl tn mb w') hq6 hqb hl1 hK (s1.alloc _) (BK.new _ T.api_Manifest zMan) (hp s1.u).1 (hp s1.u).2⟩
    rintro _ v2 ⟨rfl, s2, _⟩
    refine ⟨s2.u, ?_⟩
    refine ⟨CallT.mono (St.stepM hq6 hqb hl1 (n := 65536) (by decide) s2 rfl) ?_, (s2.alloc _).u, t2 (K := fun x w' => ∃ mb, x = some ⟨mb, 0, none⟩ ∧ Fin8 w0 w4.heap.size q pl tn mb w') hq6 hqb hl1 hK (s2.alloc _) (BK.new _ T.api_Manifest zMan) (hp s2.u).1 (hp s2.u).2⟩
    rintro _ v3 ⟨rfl, s3, _⟩
    refine ⟨s3.u, ?_⟩
    refine ⟨CallT.mono (St.step hq6 hqb hl1 s3 rfl) ?_, (s3.alloc _).u, t3 (K := fun x w' => ∃ mb, x = some ⟨mb, 0, none⟩ ∧ Fin8 w0 w4.heap.size q pl tn mb w') hq6 hqb hl1 hK (s3.alloc _) (BK.new _ T.api_Manifest zMan) (hp s3.u).1 (hp s3.u).2⟩
    rintro _ v4 ⟨rfl, s4, _⟩
    refine ⟨s4.u, ?_⟩
    refine ⟨CallT.mono (St.step hq6 hqb hl1 s4 rfl) ?_, (s4.alloc _).u, t4 (K := fun x w' => ∃ mb, x = some ⟨mb, 0, none⟩ ∧ Fin8 w0 w4.heap.size q pl tn mb w') hq6 hqb hl1 hK (s4.alloc _) (BK.new _ T.api_Manifest zMan) (hp s4.u).1 (hp s4.u).2⟩
    rintro _ v5 ⟨rfl, s5, _⟩
    refine ⟨s5.u, ?_⟩
    refine ⟨CallT.mono (St.step hq6 hqb hl1 s5 rfl) ?_, (s5.alloc _).u, t5 (K := fun x w' => ∃ mb, x = some ⟨mb, 0, none⟩ ∧ Fin8 w0 w4.heap.size q pl tn mb w') hq6 hqb hl1 hK (s5.alloc _) (BK.new _ T.api_Manifest zMan) (hp s5.u).1 (hp s5.u).2⟩
    rintro _ v6 ⟨rfl, s6, _⟩
    refine ⟨s6.u, ?_⟩
    refine ⟨CallT.mono (St.step hq6 hqb hl1 s6 rfl) ?_, (s6.alloc _).u, t6 (K := fun x w' => ∃ mb, x = some ⟨mb, 0, none⟩ ∧ Fin8 w0 w4.heap.size q pl tn mb w') hq6 hqb hl1 hK (s6.alloc _) (BK.new _ T.api_Manifest zMan) (hp s6.u).1 (hp s6.u).2⟩
    rintro _ v7 ⟨rfl, s7, _⟩
    refine ⟨s7.u, ?_⟩
    refine ⟨CallT.mono (St.step hq6 hqb hl1 s7 rfl) ?_, (s7.alloc _).u, t7 (K := fun x w' => ∃ mb, x = some ⟨mb, 0, none⟩ ∧ Fin8 w0 w4.heap.size q pl tn mb w') hq6 hqb hl1 hK (s7.alloc _) (BK.new _ T.api_Manifest zMan) (hp s7.u).1 (hp s7.u).2⟩
    rintro _ v8 ⟨rfl, s8, _⟩
    refine ⟨s8.u, ?_⟩
    exact ⟨(s8.alloc _).u, t8 (K := fun x w' => ∃ mb, x = some ⟨mb, 0, none⟩ ∧ Fin8 w0 w4.heap.size q pl tn mb w') hK (s8.alloc _) (BK.new _ T.api_Manifest zMan) (hp s8.u).1 (hp s8.u).2⟩
  rintro _ _ w7 ⟨mb, rfl, hf⟩
  have hbm := hf.m
  rw [← manK_vs] at hbm
  have e07 : Ext w w7 := e06.trans hf.st.u fun x hx h => by have := e04.size; omega
  have b17 := b16.upd hf.st.u (by omega)
  have hge := hf.ge
  refine ⟨(manK tn pl).t, hbm.all, CallT.mono (ref27_Write.spec (manK_u9 htl pl) w7) ?_⟩
  rintro ⟨o, er⟩ w8 ⟨ho, her, e8⟩
  dsimp only at ho her ⊢
  have e08 := e07.tr e8
  have b18 := b17.ext e8
  have bm8 := hbm.ext e8
  have hno : (rk pl 8).2.2 ≠ 0 ∨ writeM (manK tn pl) ≠ (b, 0) → readM b = (Man.z, 11) := fun hne => hform fun m hm hw => by
    obtain ⟨g1, g2⟩ := hread m hm hw
    obtain ⟨g3, g4⟩ := manK_eq hm g2
    rw [g1] at g3
    rcases hne with h | h
    · exact h g4
    · rw [g3, writeM, if_pos hm, hw] at h
      exact h rfl
  refine ⟨fun x w' => w8 = w' ∧ (x = true → (rk pl 8).2.2 ≠ 0 ∨ writeM (manK tn pl) ≠ (b, 0)) ∧ (x = false → writeM (manK tn pl) = (b, 0)), ⟨(rk pl 8).2.2, (hf.st.bk.ext e8).get 2 rfl, cnd_bne (fun h => ⟨rfl, fun _ => .inl h, by simp⟩) fun h8 => cnd_bne (fun hne => ⟨rfl, fun _ => .inr fun h => hne (by rw [her, h]), by simp⟩) fun h00 => CallT.mono (dunnagehelp_Bytes.spec ho.rd (hb.ext e08)) ?_⟩, ?_⟩
  · rintro _ _ ⟨rfl, rfl⟩
    refine ⟨rfl, fun h => .inr fun hw => ?_, fun h => ?_⟩
    · rw [hw] at h; simp at h
    · have hbb : (writeM (manK tn pl)).1 = b := by simpa using h
      exact Prod.ext hbb (by rw [← her, h00])
  rintro x _ _ ⟨rfl, hx1, hx2⟩
  cases x with
  | true => exact cnd_pos rfl (man_err b18 e08 (Nat.le_refl _) (hno (hx1 rfl)))
  | false =>
    have hw := hx2 rfl
    have hm : May (manK tn pl) := by
      by_cases h : May (manK tn pl)
      · exact h
      · rw [writeM, if_neg h] at hw; simp at hw
    have hwb : wrM (manK tn pl) = b := by rw [writeM, if_pos hm] at hw; exact congrArg Prod.fst hw
    have hR : readM b = (manK tn pl, 0) := by rw [← hwb]; exact readM_wr hm
    exact cnd_neg rfl ⟨(manK tn pl).t, bm8.all, man_out b18 e08 (Nat.le_refl _) hR⟩
end Go.Proofs
/- manifest.Choose and Next, and the document's. Conditions: those of each contract. -/
namespace Go.Proofs
open Go Go.Vc Go.Crc
def CAns (R : Man × Int × Int) (w : World) (r : M9 × Int × Int) (w' : World) : Prop := r.1 = R.1.t ∧ r.2.1 = R.2.1 ∧ r.2.2 = R.2.2 ∧ Ext w w'
theorem ch_out {w w' : World} {b : Nat} {m : Man} {slot code : Int} {R : Man × Int × Int} (hb : BK w' b T.api_Manifest zMan) (he : Ext w w') (hw : w.heap.size ≤ b) (hR : R = (m, slot, code)) :
    canSt w' ⟨b, 0, none⟩ 9 ∧ ∃ x : M9, cellsAt (setCells w' ⟨b, 0, none⟩ 0 (m9v m.t)) ⟨b, 0, none⟩ (m9v x) ∧ CAns R w ((x.1, x.2.1, x.2.2.1, x.2.2.2.1, x.2.2.2.2.1, x.2.2.2.2.2.1, x.2.2.2.2.2.2.1, x.2.2.2.2.2.2.2.1, x.2.2.2.2.2.2.2.2), slot, code) (setCells w' ⟨b, 0, none⟩ 0 (m9v m.t)) := by
  generalize hd : setCells w' _ 0 _ = w2
  obtain ⟨c, b2, e2, z2, _⟩ := bk_put (us := m9v m.t) hb he hw hd rfl
  subst hR
  exact ⟨c, m.t, b2.all, rfl, rfl, rfl, e2⟩
theorem ch_err {w w' : World} {b : Nat} {slot code : Int} {R : Man × Int × Int} (hb : BK w' b T.api_Manifest zMan) (he : Ext w w') (hw : w.heap.size ≤ b) (hR : R = (Man.z, slot, code)) :
    canSt w' ⟨b, 0, none⟩ 9 ∧ ∃ x : M9, cellsAt (setCells w' ⟨b, 0, none⟩ 0 zMan) ⟨b, 0, none⟩ (m9v x) ∧ CAns R w ((x.1, x.2.1, x.2.2.1, x.2.2.2.1, x.2.2.2.2.1, x.2.2.2.2.2.1, x.2.2.2.2.2.2.1, x.2.2.2.2.2.2.2.1, x.2.2.2.2.2.2.2.2), slot, code) (setCells w' ⟨b, 0, none⟩ 0 zMan) := by
  have h := ch_out (m := Man.z) hb he hw hR
  rw [show m9v Man.z.t = zMan by simp [Man.z]] at h
  exact h
section
variable {a b : List UInt8}
theorem ch1 (h : (readM a).2 = 5 ∨ (readM a).2 = 11) : chooseM a b = (Man.z, 0, (readM a).2) := by rw [chooseM, if_pos h]
theorem ch2 (h1 : ¬ ((readM a).2 = 5 ∨ (readM a).2 = 11)) (h : (readM b).2 = 5 ∨ (readM b).2 = 11) : chooseM a b = (Man.z, 0, (readM b).2) := by rw [chooseM, if_neg h1, if_pos h]
theorem ch3 (h1 : ¬ ((readM a).2 = 5 ∨ (readM a).2 = 11)) (h2 : ¬ ((readM b).2 = 5 ∨ (readM b).2 = 11)) (h : (readM a).2 = 270 ∧ (readM b).2 = 270) : chooseM a b = (Man.z, 0, 270) := by rw [chooseM, if_neg h1, if_neg h2, if_pos h]
theorem ch4 (h1 : ¬ ((readM a).2 = 5 ∨ (readM a).2 = 11)) (h2 : ¬ ((readM b).2 = 5 ∨ (readM b).2 = 11)) (h3 : ¬ ((readM a).2 = 270 ∧ (readM b).2 = 270)) (h : (readM a).2 = 270) : chooseM a b = ((readM b).1, 1, 0) := by rw [chooseM, if_neg h1, if_neg h2, if_neg h3, if_pos h]
theorem ch5 (h1 : ¬ ((readM a).2 = 5 ∨ (readM a).2 = 11)) (h2 : ¬ ((readM b).2 = 5 ∨ (readM b).2 = 11)) (h4 : ¬ (readM a).2 = 270) (h : (readM b).2 = 270) : chooseM a b = ((readM a).1, 0, 0) := by rw [chooseM, if_neg h1, if_neg h2, if_neg (fun g => h4 g.1), if_neg h4, if_pos h]
theorem ch6 (h1 : ¬ ((readM a).2 = 5 ∨ (readM a).2 = 11)) (h2 : ¬ ((readM b).2 = 5 ∨ (readM b).2 = 11)) (h4 : ¬ (readM a).2 = 270) (h5 : ¬ (readM b).2 = 270) (h : (readM a).1.turn = (readM b).1.turn) : chooseM a b = (Man.z, 0, 11) := by rw [chooseM, if_neg h1, if_neg h2, if_neg (fun g => h4 g.1), if_neg h4, if_neg h5, if_pos h]
theorem ch7 (h1 : ¬ ((readM a).2 = 5 ∨ (readM a).2 = 11)) (h2 : ¬ ((readM b).2 = 5 ∨ (readM b).2 = 11)) (h4 : ¬ (readM a).2 = 270) (h5 : ¬ (readM b).2 = 270) (h6 : ¬ (readM a).1.turn = (readM b).1.turn) (h : (readM a).1.turn > (readM b).1.turn) : chooseM a b = ((readM a).1, 0, 0) := by rw [chooseM, if_neg h1, if_neg h2, if_neg (fun g => h4 g.1), if_neg h4, if_neg h5, if_neg h6, if_pos h]
theorem ch8 (h1 : ¬ ((readM a).2 = 5 ∨ (readM a).2 = 11)) (h2 : ¬ ((readM b).2 = 5 ∨ (readM b).2 = 11)) (h4 : ¬ (readM a).2 = 270) (h5 : ¬ (readM b).2 = 270) (h6 : ¬ (readM a).1.turn = (readM b).1.turn) (h : ¬ (readM a).1.turn > (readM b).1.turn) : chooseM a b = ((readM b).1, 1, 0) := by rw [chooseM, if_neg h1, if_neg h2, if_neg (fun g => h4 g.1), if_neg h4, if_neg h5, if_neg h6, if_neg h]
end
set_option maxRecDepth 100000 in
set_option maxHeartbeats 1000000 in
theorem manifest_Choose.spec {w : World} {s t : SV} {a b : List UInt8} (ha : RdB w s a) (hac : s.len ≤ s.cap) (hal : a.length ≤ 140737488351232) (hb : RdB w t b) (hbc : t.len ≤ t.cap) (hbl : b.length ≤ 140737488351232) :
    CallT [.agg [.int .u64, .int .u64, .int .i64, .int .i64, .int .u64, .int .u64, .int .u64, .int .u64, .int .u64], .one (.int .i64), .one (.int .i64)] Try.prog F.manifest_Choose [.slice s.a s.len s.cap, .slice t.a t.len t.cap] w fun r w' => CAns (chooseM a b) w r w' := by
  refine manifest_Choose.vc s t w _ ?_
  generalize hc1 : w.alloc _ = w1
  obtain ⟨b1, e1, z1⟩ := bk_new (T := T.api_Manifest) (vs := zMan) hc1
  refine CallT.mono (manifest_Read.spec (ha.ext e1) hac hal) ?_
  rintro ⟨x, e⟩ w2 ⟨hx, he, e2⟩
  dsimp only at hx he ⊢
  subst hx he
  have ca := readM_codes a
  have cb := readM_codes b
  generalize hc3 : w2.alloc _ = w3
  generalize hd3 : setCells w3 _ 0 _ = w4
  obtain ⟨c4, b4, e4, z4⟩ := bk_mk (T := T.api_Manifest) (z := zMan) (vs := m9v (readM a).1.t) hc3 hd3 rfl
  have e04 := (e1.tr e2).tr e4
  have b14 := (b1.ext e2).ext e4
  have l1 := b1.lt
  have s2 := e2.size
  refine ⟨c4, fun _ v => w4 = v ∧ ¬ ((readM a).2 = 5 ∨ (readM a).2 = 11), ⟨fun x v => w4 = v ∧ (x = true ↔ ((readM a).2 = 5 ∨ (readM a).2 = 11)), cnd_beq (fun h => ⟨rfl, by simp [h]⟩) (fun h => ⟨rfl, by simp [h]⟩), ?_⟩, ?_⟩
  · rintro x _ _ ⟨rfl, hx⟩
    cases x with
    | true => exact cnd_pos rfl (ch_err b14 e04 (Nat.le_refl _) (ch1 (hx.1 rfl)))
    | false => exact cnd_neg rfl ⟨rfl, fun h => by have := hx.2 h; simp at this⟩
  rintro _ _ _ ⟨rfl, h1⟩
  refine CallT.mono (manifest_Read.spec (hb.ext e04) hbc hbl) ?_
  rintro ⟨y, f⟩ w5 ⟨hy, hf, e5⟩
  dsimp only at hy hf ⊢
  subst hy hf
  generalize hc6 : w5.alloc _ = w6
  generalize hd6 : setCells w6 _ 0 _ = w7
  obtain ⟨c7, b7, e7, z7⟩ := bk_mk (T := T.api_Manifest) (z := zMan) (vs := m9v (readM b).1.t) hc6 hd6 rfl
  have e07 := (e04.tr e5).tr e7
  have b17 := (b14.ext e5).ext e7
  have b47 := (b4.ext e5).ext e7
  refine ⟨c7, fun _ v => w7 = v ∧ ¬ ((readM b).2 = 5 ∨ (readM b).2 = 11), ⟨fun x v => w7 = v ∧ (x = true ↔ ((readM b).2 = 5 ∨ (readM b).2 = 11)), cnd_beq (fun h => ⟨rfl, by simp [h]⟩) (fun h => ⟨rfl, by simp [h]⟩), ?_⟩, ?_⟩
  · rintro x _ _ ⟨rfl, hx⟩
    cases x with
    | true => exact cnd_pos rfl (ch_err b17 e07 (Nat.le_refl _) (ch2 h1 (hx.1 rfl)))
    | false => exact cnd_neg rfl ⟨rfl, fun h => by have := hx.2 h; simp at this⟩
  rintro _ _ _ ⟨rfl, h2⟩
  refine ⟨fun x v => w7 = v ∧ (x = true ↔ ((readM a).2 = 270 ∧ (readM b).2 = 270)), cnd_bne (fun h => ⟨rfl, ?_⟩) (fun h => ⟨rfl, ?_⟩), ?_⟩
  · rw [bne_iff_ne]; omega
  · simp only [Bool.false_eq_true, false_iff]; omega
  rintro x _ _ ⟨rfl, hx⟩
  cases x with
  | true => exact cnd_pos rfl (ch_err b17 e07 (Nat.le_refl _) (ch3 h1 h2 (hx.1 rfl)))
  | false =>
  have h3 : ¬ ((readM a).2 = 270 ∧ (readM b).2 = 270) := fun h => by have := hx.2 h; simp at this
  refine cnd_neg rfl (cnd_bne (fun h => ?_) (fun h => cnd_bne (fun g => ?_) (fun g => ?_)))
  · exact ⟨(readM a).1.t, b47.all, ch_out b17 e07 (Nat.le_refl _) (ch5 h1 h2 (by omega) (by omega))⟩
  · exact ⟨(readM b).1.t, b7.all, ch_out b17 e07 (Nat.le_refl _) (ch4 h1 h2 h3 (by omega))⟩
  refine ⟨((readM a).1.turn : Int), b47.get 0 rfl, ((readM b).1.turn : Int), b7.get 0 rfl, cnd_beq (fun h6 => ch_err b17 e07 (Nat.le_refl _) (ch6 h1 h2 (by omega) (by omega) (by omega))) (fun h6 => ⟨((readM a).1.turn : Int), b47.get 0 rfl, ((readM b).1.turn : Int), b7.get 0 rfl, cnd_dec (fun h7 => ?_) (fun h7 => ?_)⟩)⟩
  · exact ⟨(readM a).1.t, b47.all, ch_out b17 e07 (Nat.le_refl _) (ch7 h1 h2 (by omega) (by omega) (by omega) (by omega))⟩
  · exact ⟨(readM b).1.t, b7.all, ch_out b17 e07 (Nat.le_refl _) (ch8 h1 h2 (by omega) (by omega) (by omega) (by omega))⟩
set_option maxRecDepth 100000 in
set_option maxHeartbeats 1000000 in
theorem ref27_Choose.spec {w : World} {s t : SV} {a b : List UInt8} (ha : RdB w s a) (hac : s.len ≤ s.cap) (hal : a.length ≤ 140737488351232) (hb : RdB w t b) (hbc : t.len ≤ t.cap) (hbl : b.length ≤ 140737488351232) :
    CallT [.agg [.int .u64, .int .u64, .int .i64, .int .i64, .int .u64, .int .u64, .int .u64, .int .u64, .int .u64], .one (.int .i64), .one (.int .i64)] Try.prog F.dunnageref27_Choose [.slice s.a s.len s.cap, .slice t.a t.len t.cap] w fun r w' => CAns (chooseM a b) w r w' := by
  refine dunnageref27_Choose.vc s t w _ ?_
  generalize hc1 : w.alloc _ = w1
  obtain ⟨b1, e1, z1⟩ := bk_new (T := T.api_Manifest) (vs := zMan) hc1
  refine CallT.mono (ref27_Read.spec (ha.ext e1) hac hal) ?_
  rintro ⟨x, e⟩ w2 ⟨hx, he, e2⟩
  dsimp only at hx he ⊢
  subst hx he
  have ca := readM_codes a
  have cb := readM_codes b
  generalize hc3 : w2.alloc _ = w3
  generalize hd3 : setCells w3 _ 0 _ = w4
  obtain ⟨c4, b4, e4, z4⟩ := bk_mk (T := T.api_Manifest) (z := zMan) (vs := m9v (readM a).1.t) hc3 hd3 rfl
  have e04 := (e1.tr e2).tr e4
  have b14 := (b1.ext e2).ext e4
  have l1 := b1.lt
  have s2 := e2.size
  refine ⟨c4, CallT.mono (ref27_Read.spec (hb.ext e04) hbc hbl) ?_⟩
  rintro ⟨y, f⟩ w5 ⟨hy, hf, e5⟩
  dsimp only at hy hf ⊢
  subst hy hf
  generalize hc6 : w5.alloc _ = w6
  generalize hd6 : setCells w6 _ 0 _ = w7
  obtain ⟨c7, b7, e7, z7⟩ := bk_mk (T := T.api_Manifest) (z := zMan) (vs := m9v (readM b).1.t) hc6 hd6 rfl
  have e07 := (e04.tr e5).tr e7
  have b17 := (b14.ext e5).ext e7
  have b47 := (b4.ext e5).ext e7
  refine ⟨c7, fun x v => w7 = v ∧ (x = true ↔ ((readM a).2 = 5 ∨ (readM a).2 = 11)), cnd_beq (fun h => ⟨rfl, by simp [h]⟩) (fun h => ⟨rfl, by simp [h]⟩), ?_⟩
  rintro x _ _ ⟨rfl, hx⟩
  cases x with
  | true => exact cnd_pos rfl (ch_err b17 e07 (Nat.le_refl _) (ch1 (hx.1 rfl)))
  | false =>
  have h1 : ¬ ((readM a).2 = 5 ∨ (readM a).2 = 11) := fun h => by have := hx.2 h; simp at this
  refine cnd_neg rfl ⟨fun x v => w7 = v ∧ (x = true ↔ ((readM b).2 = 5 ∨ (readM b).2 = 11)), cnd_beq (fun h => ⟨rfl, by simp [h]⟩) (fun h => ⟨rfl, by simp [h]⟩), ?_⟩
  rintro x _ _ ⟨rfl, hx⟩
  cases x with
  | true => exact cnd_pos rfl (ch_err b17 e07 (Nat.le_refl _) (ch2 h1 (hx.1 rfl)))
  | false =>
  have h2 : ¬ ((readM b).2 = 5 ∨ (readM b).2 = 11) := fun h => by have := hx.2 h; simp at this
  refine cnd_neg rfl ⟨fun x v => w7 = v ∧ (x = true ↔ ((readM a).2 = 270 ∧ (readM b).2 = 270)), cnd_beq (fun h => ⟨rfl, ?_⟩) (fun h => ⟨rfl, ?_⟩), ?_⟩
  · rw [beq_iff_eq]; omega
  · simp only [Bool.false_eq_true, false_iff]; omega
  rintro x _ _ ⟨rfl, hx⟩
  cases x with
  | true => exact cnd_pos rfl (ch_err b17 e07 (Nat.le_refl _) (ch3 h1 h2 (hx.1 rfl)))
  | false =>
  have h3 : ¬ ((readM a).2 = 270 ∧ (readM b).2 = 270) := fun h => by have := hx.2 h; simp at this
  refine cnd_neg rfl (cnd_beq (fun h => ?_) (fun h => cnd_beq (fun g => ?_) (fun g => ?_)))
  · exact ⟨(readM b).1.t, b7.all, ch_out b17 e07 (Nat.le_refl _) (ch4 h1 h2 h3 (by omega))⟩
  · exact ⟨(readM a).1.t, b47.all, ch_out b17 e07 (Nat.le_refl _) (ch5 h1 h2 (by omega) (by omega))⟩
  refine ⟨((readM a).1.turn : Int), b47.get 0 rfl, ((readM b).1.turn : Int), b7.get 0 rfl, cnd_beq (fun h6 => ch_err b17 e07 (Nat.le_refl _) (ch6 h1 h2 (by omega) (by omega) (by omega))) (fun h6 => ⟨((readM a).1.turn : Int), b47.get 0 rfl, ((readM b).1.turn : Int), b7.get 0 rfl, cnd_dec (fun h7 => ?_) (fun h7 => ?_)⟩)⟩
  · exact ⟨(readM a).1.t, b47.all, ch_out b17 e07 (Nat.le_refl _) (ch7 h1 h2 (by omega) (by omega) (by omega) (by omega))⟩
  · exact ⟨(readM b).1.t, b7.all, ch_out b17 e07 (Nat.le_refl _) (ch8 h1 h2 (by omega) (by omega) (by omega) (by omega))⟩
/-! ### Next -/
theorem nextM_no {m : Man} {slot : Int} (h : ¬ May m) : nextM m slot = (Man.z, 0) := if_neg h
theorem nextM_yes {m : Man} {slot : Int} (h : May m) : nextM m slot = ({ m with turn := m.turn + 1 }, if slot = 0 then 1 else 0) := if_pos h
set_option maxRecDepth 100000 in
theorem manifest_Next.spec (m : Man) (slot : Int) (w : World) :
    CallT [.agg [.int .u64, .int .u64, .int .i64, .int .i64, .int .u64, .int .u64, .int .u64, .int .u64, .int .u64], .one (.int .i64)] Try.prog F.manifest_Next [.agg (m9v m.t).toArray, .int .i64 slot] w fun r w' => MAns (nextM m slot) w r w' := by
  refine manifest_Next.vc m.t slot w _ ?_
  generalize hc : w.alloc _ = w1
  obtain ⟨b1, e1, z1⟩ := bk_new (T := T.api_Manifest) (vs := m9v m.t) hc
  dsimp only
  generalize hc2 : w1.alloc _ = w2
  obtain ⟨b2, e2, z2⟩ := bk_new (T := T.api_Manifest) (vs := zMan) hc2
  have b12 := b1.ext e2
  have l1 := b1.lt
  refine ⟨m.t, b12.all, CallT.mono (manifest_May.spec m w2) ?_⟩
  rintro _ w3 ⟨rfl, e3⟩
  have e03 := (e1.tr e2).tr e3
  have b13 := b12.ext e3
  have b23 := b2.ext e3
  refine cnd_not (fun hf => man_err b23 e03 (by omega) (nextM_no (by simpa using hf))) (fun ht => ?_)
  have hm : May m := by simpa using ht
  have hw : IntKind.u64.wrap ((m.turn : Int) + 1) = ((m.turn + 1 : Nat) : Int) := by unfold May at hm; rw [u64_mod]; omega
  obtain ⟨k1, k2, k3⟩ := b13.store 0 (by simp) (.int .u64 ((m.turn + 1 : Nat) : Int))
  refine ⟨(m.turn : Int), b13.get 0 rfl, k1, k2, ?_⟩
  rw [hw]
  have u4 : Upd (fun x => x = w.heap.size) w3 (w3.setCell (Addr.add ⟨w.heap.size, 0, none⟩ 0) (.int .u64 ((m.turn + 1 : Nat) : Int))) := by
    rw [add_mk]; exact (Upd.refl (fun x => x = w.heap.size) w3).set (p := ⟨w.heap.size, 0 + 0, none⟩) (fun _ => rfl) _
  generalize w3.setCell _ _ = w4 at *
  have b24 := b23.upd u4 (by omega)
  have e04 : Ext w w4 := e03.trans u4 fun x hx h => by omega
  have b14 : BK w4 w.heap.size T.api_Manifest (m9v ({ m with turn := m.turn + 1 } : Man).t) := k3
  refine cnd_beq (fun h0 => ?_) (fun h0 => ?_)
  · exact ⟨({ m with turn := m.turn + 1 } : Man).t, b14.all, man_out b24 e04 (by omega) (by rw [nextM_yes hm, if_pos h0])⟩
  · exact ⟨({ m with turn := m.turn + 1 } : Man).t, b14.all, man_out b24 e04 (by omega) (by rw [nextM_yes hm, if_neg h0])⟩
set_option maxRecDepth 100000 in
theorem ref27_Next.spec (m : Man) (slot : Int) (w : World) :
    CallT [.agg [.int .u64, .int .u64, .int .i64, .int .i64, .int .u64, .int .u64, .int .u64, .int .u64, .int .u64], .one (.int .i64)] Try.prog F.dunnageref27_Next [.agg (m9v m.t).toArray, .int .i64 slot] w fun r w' => MAns (nextM m slot) w r w' := by
  refine dunnageref27_Next.vc m.t slot w _ ?_
  generalize hc : w.alloc _ = w1
  obtain ⟨b1, e1, z1⟩ := bk_new (T := T.api_Manifest) (vs := m9v m.t) hc
  dsimp only
  generalize hc2 : w1.alloc _ = w2
  obtain ⟨b2, e2, z2⟩ := bk_new (T := T.api_Manifest) (vs := zMan) hc2
  have b12 := b1.ext e2
  have l1 := b1.lt
  refine ⟨m.t, b12.all, CallT.mono (ref27_May.spec m w2) ?_⟩
  rintro _ w3 ⟨rfl, e3⟩
  have e03 := (e1.tr e2).tr e3
  have b13 := b12.ext e3
  have b23 := b2.ext e3
  refine cnd_not (fun hf => man_err b23 e03 (by omega) (nextM_no (by simpa using hf))) (fun ht => ?_)
  have hm : May m := by simpa using ht
  have hw : IntKind.u64.wrap ((m.turn : Int) + 1) = ((m.turn + 1 : Nat) : Int) := by unfold May at hm; rw [u64_mod]; omega
  obtain ⟨k1, k2, k3⟩ := b13.store 0 (by simp) (.int .u64 ((m.turn + 1 : Nat) : Int))
  refine ⟨(m.turn : Int), b13.get 0 rfl, k1, k2, ?_⟩
  rw [hw]
  have u4 : Upd (fun x => x = w.heap.size) w3 (w3.setCell (Addr.add ⟨w.heap.size, 0, none⟩ 0) (.int .u64 ((m.turn + 1 : Nat) : Int))) := by
    rw [add_mk]; exact (Upd.refl (fun x => x = w.heap.size) w3).set (p := ⟨w.heap.size, 0 + 0, none⟩) (fun _ => rfl) _
  generalize w3.setCell _ _ = w4 at *
  have b24 := b23.upd u4 (by omega)
  have e04 : Ext w w4 := e03.trans u4 fun x hx h => by omega
  have b14 : BK w4 w.heap.size T.api_Manifest (m9v ({ m with turn := m.turn + 1 } : Man).t) := k3
  refine cnd_beq (fun h0 => ?_) (fun h0 => ?_)
  · exact ⟨({ m with turn := m.turn + 1 } : Man).t, b14.all, man_out b24 e04 (by omega) (by rw [nextM_yes hm, if_pos h0])⟩
  · exact ⟨({ m with turn := m.turn + 1 } : Man).t, b14.all, man_out b24 e04 (by omega) (by rw [nextM_yes hm, if_neg h0])⟩
end Go.Proofs
/- dunnagelaw27.ManifestTells: which manifests may be, what they are as sectors, what any bytes are, which of two slots counts, and what comes next. Conditions: what came in is of the sizes that the form allows. -/
namespace Go.Proofs
open Go Go.Vc Go.Crc
def man1 : Man := ⟨1, 0, 0, 0, 0, 0, 0, 0, 1⟩
theorem awake27.spec (w : World) : CallT [.one .bool] Try.prog F.dunnagelaw27_awake [] w fun r w' => r = true ∧ Ext w w' := by
  refine dunnagelaw27_awake.vc w _ ?_
  have hm : May man1 := by decide
  have hv : m9v man1.t = [.int .u64 1, .int .u64 0, .int .i64 0, .int .i64 0, .int .u64 0, .int .u64 0, .int .u64 0, .int .u64 0, .int .u64 1] := by simp [man1]
  have hz : m9v Man.z.t = zMan := by simp [Man.z]
  have h1 := manifest_Write.spec (m := man1) hm.u9 w
  rw [hv] at h1
  refine CallT.mono h1 ?_
  rintro ⟨q, e⟩ w1 ⟨hq, he, e1⟩
  rw [writeM, if_pos hm] at hq he
  dsimp only at hq he ⊢
  subst he
  have hl := hq.rd.lenB
  rw [wrM_len hm] at hl
  have h2 := manifest_May.spec Man.z w1
  rw [hz] at h2
  refine cnd_pos rfl (cnd_pos (by rw [hl]; rfl) (CallT.mono h2 ?_))
  rintro _ w2 ⟨rfl, e2⟩
  exact ⟨by decide, e1.tr e2⟩
theorem meq_self (x : M9) : (x.1 == x.1 && (x.2.1 == x.2.1 && (x.2.2.1 == x.2.2.1 && (x.2.2.2.1 == x.2.2.2.1 && (x.2.2.2.2.1 == x.2.2.2.2.1 && (x.2.2.2.2.2.1 == x.2.2.2.2.2.1 && (x.2.2.2.2.2.2.1 == x.2.2.2.2.2.2.1 && (x.2.2.2.2.2.2.2.1 == x.2.2.2.2.2.2.2.1 && (x.2.2.2.2.2.2.2.2 == x.2.2.2.2.2.2.2.2 && true))))))))) = true := by simp
set_option maxRecDepth 100000 in
set_option maxHeartbeats 1000000 in
theorem dunnagelaw27_ManifestTells.spec {w : World} {m : Man} (hu : U9 m) {s t : SV} {a b : List UInt8} {slot : Int} (ha : RdB w s a) (hac : s.len ≤ s.cap) (ham : s.cap ≤ 140737488351232) (hb : RdB w t b) (hbc : t.len ≤ t.cap) (hbm : t.cap ≤ 140737488351232) :
    CallT [.one .bool] Try.prog F.dunnagelaw27_ManifestTells [.agg (m9v m.t).toArray, .slice s.a s.len s.cap, .slice t.a t.len t.cap, .int .i64 slot] w fun r w' => r = true ∧ Ext w w' := by
  refine dunnagelaw27_ManifestTells.vc m.t s t slot w _ ?_
  have hal := ha.lenB
  have hbl := hb.lenB
  generalize hc1 : w.alloc _ = w1
  obtain ⟨b1, e1, z1⟩ := bk_new (T := T.api_Manifest) (vs := m9v m.t) hc1
  refine CallT.mono (dunnagehelp_Own_byte.spec (ha.ext e1) (by omega) 71) ?_
  rintro p w2 ⟨hpl, hpc, e2, gp, hp⟩
  have f2 := e1.tr e2
  refine CallT.mono (dunnagehelp_Own_byte.spec (hb.ext f2) (by omega) 72) ?_
  rintro q w3 ⟨hql, hqc, e3, gq, hq⟩
  have f3 := f2.tr e3
  have b3 := (b1.ext e2).ext e3
  have hp3 := hp.ext e3
  refine ⟨m.t, b3.all, CallT.mono (manifest_Write.spec hu w3) ?_⟩
  rintro ⟨x, ex⟩ w4 ⟨hx, hex, e4⟩
  have f4 := f3.tr e4
  refine ⟨m.t, (b3.ext e4).all, CallT.mono (ref27_Write.spec hu w4) ?_⟩
  rintro ⟨y, ey⟩ w5 ⟨hy, hey, e5⟩
  have f5 := f4.tr e5
  have e35 := e4.tr e5
  dsimp only at hx hex hy hey ⊢
  refine CallT.mono (manifest_Read.spec (hp3.ext e35).rd (by omega) (by omega)) ?_
  rintro ⟨c, ec⟩ w6 ⟨hcx, hec, e6⟩
  dsimp only at hcx hec ⊢
  subst hcx hec
  generalize ha7 : w6.alloc _ = w7
  generalize hd7 : setCells w7 _ 0 _ = w8
  obtain ⟨c8, b8, e8, z8⟩ := bk_mk (T := T.api_Manifest) (z := zMan) (vs := m9v (readM a).1.t) ha7 hd7 rfl
  have f8 := (f5.tr e6).tr e8
  refine ⟨c8, CallT.mono (ref27_Read.spec (ha.ext f8) hac (by omega)) ?_⟩
  rintro ⟨d, ed⟩ w9 ⟨hdx, hed, e9⟩
  dsimp only at hdx hed ⊢
  subst hdx hed
  generalize ha10 : w9.alloc _ = w10
  generalize hd10 : setCells w10 _ 0 _ = w11
  obtain ⟨c11, b11, e11, z11⟩ := bk_mk (T := T.api_Manifest) (z := zMan) (vs := m9v (readM a).1.t) ha10 hd10 rfl
  have e311 := (((e35.tr e6).tr e8).tr e9).tr e11
  have f11 := f3.tr e311
  refine ⟨c11, CallT.mono (manifest_Choose.spec (hp3.ext e311).rd (by omega) (by omega) (hq.ext e311).rd (by omega) (by omega)) ?_⟩
  rintro ⟨g, gi, ge⟩ w12 ⟨hgx, hgi, hge, e12⟩
  dsimp only at hgx hgi hge ⊢
  subst hgx hgi hge
  generalize ha13 : w12.alloc _ = w13
  generalize hd13 : setCells w13 _ 0 _ = w14
  obtain ⟨c14, b14, e14, z14⟩ := bk_mk (T := T.api_Manifest) (z := zMan) (vs := m9v (chooseM a b).1.t) ha13 hd13 rfl
  have f14 := (f11.tr e12).tr e14
  refine ⟨c14, CallT.mono (ref27_Choose.spec (ha.ext f14) hac (by omega) (hb.ext f14) hbc (by omega)) ?_⟩
  rintro ⟨h, hi, he⟩ w15 ⟨hhx, hhi, hhe, e15⟩
  dsimp only at hhx hhi hhe ⊢
  subst hhx hhi hhe
  generalize ha16 : w15.alloc _ = w16
  generalize hd16 : setCells w16 _ 0 _ = w17
  obtain ⟨c17, b17, e17, z17⟩ := bk_mk (T := T.api_Manifest) (z := zMan) (vs := m9v (chooseM a b).1.t) ha16 hd16 rfl
  have e317 := (((e311.tr e12).tr e14).tr e15).tr e17
  refine ⟨c17, m.t, (b3.ext e317).all, CallT.mono (manifest_Next.spec m slot w17) ?_⟩
  rintro ⟨i, ii⟩ w18 ⟨hix, hii, e18⟩
  dsimp only at hix hii ⊢
  subst hix hii
  generalize ha19 : w18.alloc _ = w19
  generalize hd19 : setCells w19 _ 0 _ = w20
  obtain ⟨c20, b20, e20, z20⟩ := bk_mk (T := T.api_Manifest) (z := zMan) (vs := m9v (nextM m slot).1.t) ha19 hd19 rfl
  have e320 := (e317.tr e18).tr e20
  refine ⟨c20, m.t, (b3.ext e320).all, CallT.mono (ref27_Next.spec m slot w20) ?_⟩
  rintro ⟨j, ji⟩ w21 ⟨hjx, hji, e21⟩
  dsimp only at hjx hji ⊢
  subst hjx hji
  generalize ha22 : w21.alloc _ = w22
  generalize hd22 : setCells w22 _ 0 _ = w23
  obtain ⟨c23, b23, e23, z23⟩ := bk_mk (T := T.api_Manifest) (z := zMan) (vs := m9v (nextM m slot).1.t) ha22 hd22 rfl
  have e323 := (e320.tr e21).tr e23
  have f23 := f3.tr e323
  have b323 := b3.ext e323
  have e823 : Ext w8 w23 := ((((((((e9.tr e11).tr e12).tr e14).tr e15).tr e17).tr e18).tr e20).tr e21).tr e23
  have e1123 : Ext w11 w23 := (((((((e12.tr e14).tr e15).tr e17).tr e18).tr e20).tr e21)).tr e23
  have e1423 : Ext w14 w23 := (((((e15.tr e17).tr e18).tr e20).tr e21)).tr e23
  have e1723 : Ext w17 w23 := ((((e18).tr e20).tr e21)).tr e23
  have e2023 : Ext w20 w23 := e21.tr e23
  have b823 := b8.ext e823
  have b1123 := b11.ext e1123
  have b1423 := b14.ext e1423
  have b1723 := b17.ext e1723
  have b2023 := b20.ext e2023
  have hx23 : RdB w23 x (writeM m).1 := (((hx.rd.ext e5).ext e6).ext e8).ext e823
  have hy23 : RdB w23 y (writeM m).1 := ((hy.rd.ext e6).ext e8).ext e823
  have hp23 := hp3.ext e323
  have hq23 := hq.ext e323
  refine ⟨c23, fun v => Ext w23 v, ext_drew w23, CallT.mono (awake27.spec _) ?_⟩
  rintro _ v1 ⟨rfl, g1⟩
  have g1 : Ext w23 v1 := (ext_drew w23).tr g1
  refine ⟨g1, cnd_pos rfl ⟨m.t, fun v hv => (b323.ext hv).all, m.t, fun v hv => (b323.ext hv).all, CallT.mono (manifest_May.spec m v1) ?_⟩⟩
  rintro _ v2 ⟨rfl, g2⟩
  have g2 := g1.tr g2
  refine ⟨g2, CallT.mono (ref27_May.spec m v2) ?_⟩
  rintro _ v3 ⟨rfl, g3⟩
  have g3 := g2.tr g3
  refine ⟨g3, cnd_pos (by simp) (CallT.mono (dunnagehelp_Bytes.spec (hx23.ext g3) (hy23.ext g3)) ?_)⟩
  rintro _ _ ⟨rfl, rfl⟩
  refine ⟨g3, cnd_pos (by simp) (cnd_pos (by rw [hex, hey]; simp) ?_)⟩
  refine ⟨(readM a).1.t, fun v hv => (b823.ext hv).all, (readM a).1.t, fun v hv => (b1123.ext hv).all, cnd_pos (meq_self _) (cnd_pos (by simp) ?_)⟩
  refine ⟨(chooseM a b).1.t, fun v hv => (b1423.ext hv).all, (chooseM a b).1.t, fun v hv => (b1723.ext hv).all, cnd_pos (meq_self _) (cnd_pos (by simp) (cnd_pos (by simp) ?_))⟩
  refine ⟨(nextM m slot).1.t, fun v hv => (b2023.ext hv).all, (nextM m slot).1.t, fun v hv => (b23.ext hv).all, cnd_pos (meq_self _) (cnd_pos (by simp) ?_)⟩
  refine CallT.mono (dunnagehelp_Kept_byte.spec (c := 71) (hp23.ext g3) (ha.ext (f23.tr g3)) (by omega)) ?_
  rintro _ v4 ⟨rfl, g4⟩
  have g4 := g3.tr g4
  refine ⟨g4, cnd_pos (by simp) (CallT.mono (dunnagehelp_Kept_byte.spec (c := 72) (hq23.ext g4) (hb.ext (f23.tr g4)) (by omega)) ?_)⟩
  rintro _ v5 ⟨rfl, g5⟩
  have g5 := g4.tr g5
  exact ⟨g5, by simp, f23.tr g5⟩
/-! ### a manifest that comes in -/
theorem man_rel {w : World} {bd : TypeId → Nat → Prop} {bs : Nat → Prop} {a : Array Value} (h : DS.rel w bd bs (.struct (.cons 0 1 (.int .u64) (.cons 1 1 (.int .u64) (.cons 2 1 (.int .i64) (.cons 3 1 (.int .i64) (.cons 4 1 (.int .u64) (.cons 5 1 (.int .u64) (.cons 6 1 (.int .u64) (.cons 7 1 (.int .u64) (.cons 8 1 (.int .u64) .nil)))))))))) a.toList) (g : a.size = 9) :
    ∃ m : Man, a = (m9v m.t).toArray ∧ U9 m := by
  obtain ⟨l⟩ := a
  match l, g with
  | [v0, v1, v2, v3, v4, v5, v6, v7, v8], _ =>
    obtain ⟨⟨n0, h0, w0⟩, ⟨n1, h1, w1⟩, ⟨n2, h2, w2⟩, ⟨n3, h3, w3⟩, ⟨n4, h4, w4⟩, ⟨n5, h5, w5⟩, ⟨n6, h6, w6⟩, ⟨n7, h7, w7⟩, ⟨n8, h8, w8⟩, _⟩ := h
    have u : ∀ {n : Int}, (Lit.int .u64 n).wf = true → 0 ≤ n ∧ n ≤ 18446744073709551615 := fun {n} hw => by
      have : IntKind.u64.min ≤ n ∧ n ≤ IntKind.u64.max := by simpa [Lit.wf] using hw
      exact this
    have i : ∀ {n : Int}, (Lit.int .i64 n).wf = true → -9223372036854775808 ≤ n ∧ n ≤ 9223372036854775807 := fun {n} hw => by
      have : IntKind.i64.min ≤ n ∧ n ≤ IntKind.i64.max := by simpa [Lit.wf] using hw
      exact this
    have u0 := u w0
    have u1 := u w1
    have u2 := i w2
    have u3 := i w3
    have u4 := u w4
    have u5 := u w5
    have u6 := u w6
    have u7 := u w7
    have u8 := u w8
    simp only [List.drop_zero, List.drop_succ_cons, List.take_succ_cons, List.take_zero, List.cons.injEq, and_true] at h0 h1 h2 h3 h4 h5 h6 h7 h8
    subst h0 h1 h2 h3 h4 h5 h6 h7 h8
    obtain ⟨x0, rfl⟩ : ∃ x : Nat, n0 = x := ⟨n0.toNat, by omega⟩
    obtain ⟨x1, rfl⟩ : ∃ x : Nat, n1 = x := ⟨n1.toNat, by omega⟩
    obtain ⟨x4, rfl⟩ : ∃ x : Nat, n4 = x := ⟨n4.toNat, by omega⟩
    obtain ⟨x5, rfl⟩ : ∃ x : Nat, n5 = x := ⟨n5.toNat, by omega⟩
    obtain ⟨x6, rfl⟩ : ∃ x : Nat, n6 = x := ⟨n6.toNat, by omega⟩
    obtain ⟨x7, rfl⟩ : ∃ x : Nat, n7 = x := ⟨n7.toNat, by omega⟩
    obtain ⟨x8, rfl⟩ : ∃ x : Nat, n8 = x := ⟨n8.toNat, by omega⟩
    exact ⟨⟨x0, x1, n2, n3, x4, x5, x6, x7, x8⟩, rfl, ⟨by show x0 < _; omega, by show x1 < _; omega, u2, u3, by show x4 < _; omega, by show x5 < _; omega, by show x6 < _; omega, by show x7 < _; omega, by show x8 < _; omega⟩⟩
theorem dunnagelaw27_ManifestTells.row {w : World} {bd : TypeId → Nat → Prop} {bs : Nat → Prop} {a0 : Array Value} {s t : SV} {a b : List UInt8} {slot : Int} (h : DS.rel w bd bs (.struct (.cons 0 1 (.int .u64) (.cons 1 1 (.int .u64) (.cons 2 1 (.int .i64) (.cons 3 1 (.int .i64) (.cons 4 1 (.int .u64) (.cons 5 1 (.int .u64) (.cons 6 1 (.int .u64) (.cons 7 1 (.int .u64) (.cons 8 1 (.int .u64) .nil)))))))))) a0.toList) (g : a0.size = 9)
    (ha : RdB w s a) (hac : s.len ≤ s.cap) (ham : s.cap ≤ 140737488351232) (hb : RdB w t b) (hbc : t.len ≤ t.cap) (hbm : t.cap ≤ 140737488351232) :
    CallT [.one .bool] Try.prog F.dunnagelaw27_ManifestTells [.agg a0, .slice s.a s.len s.cap, .slice t.a t.len t.cap, .int .i64 slot] w fun r w' => r = true ∧ Ext w w' := by
  obtain ⟨m, rfl, hu⟩ := man_rel h g
  exact dunnagelaw27_ManifestTells.spec hu ha hac ham hb hbc hbm
end Go.Proofs
/- The conditions of the seat's functions, written by a program (VcTool, genvc.py) off 'vc' reduced; each is tied to 'vc' by the kernel. Conditions: none. -/
set_option linter.unusedVariables false
set_option maxRecDepth 100000
namespace Go.Proofs
open Go Go.Vc
/-- dunnage/dunnagelaw27.ManifestBack -/
theorem dunnagelaw27_ManifestBack.vc (x0 : Int × Int × Int × Int × Int × Int × Int × Int × Int) (s1 : SV) (n2 : Int) (n3 : Int) (n4 : Int) (w : World) (R : Bool → World → Prop)
  (h : let w1 :=
      w.alloc
        (Obj.cells
          #[Value.int IntKind.u64 x0.fst, Value.int IntKind.u64 x0.snd.fst, Value.int IntKind.i64 x0.snd.snd.fst,
            Value.int IntKind.i64 x0.snd.snd.snd.fst, Value.int IntKind.u64 x0.snd.snd.snd.snd.fst,
            Value.int IntKind.u64 x0.snd.snd.snd.snd.snd.fst, Value.int IntKind.u64 x0.snd.snd.snd.snd.snd.snd.fst,
            Value.int IntKind.u64 x0.snd.snd.snd.snd.snd.snd.snd.fst,
            Value.int IntKind.u64 x0.snd.snd.snd.snd.snd.snd.snd.snd]
          (92 : Nat));
    ∃ (x : Int × Int × Int × Int × Int × Int × Int × Int × Int),
      cellsAt w1 (Addr.mk w.heap.size (0 : Nat) none)
          [Value.int IntKind.u64 x.fst, Value.int IntKind.u64 x.snd.fst, Value.int IntKind.i64 x.snd.snd.fst,
            Value.int IntKind.i64 x.snd.snd.snd.fst, Value.int IntKind.u64 x.snd.snd.snd.snd.fst,
            Value.int IntKind.u64 x.snd.snd.snd.snd.snd.fst, Value.int IntKind.u64 x.snd.snd.snd.snd.snd.snd.fst,
            Value.int IntKind.u64 x.snd.snd.snd.snd.snd.snd.snd.fst,
            Value.int IntKind.u64 x.snd.snd.snd.snd.snd.snd.snd.snd] ∧
        CallT [Ty.one Sh.slice, Ty.one (Sh.int IntKind.i64)] Try.prog (68 : Nat)
          [Value.agg
              #[Value.int IntKind.u64 x.fst, Value.int IntKind.u64 x.snd.fst, Value.int IntKind.i64 x.snd.snd.fst,
                Value.int IntKind.i64 x.snd.snd.snd.fst, Value.int IntKind.u64 x.snd.snd.snd.snd.fst,
                Value.int IntKind.u64 x.snd.snd.snd.snd.snd.fst, Value.int IntKind.u64 x.snd.snd.snd.snd.snd.snd.fst,
                Value.int IntKind.u64 x.snd.snd.snd.snd.snd.snd.snd.fst,
                Value.int IntKind.u64 x.snd.snd.snd.snd.snd.snd.snd.snd]]
          w1 fun (x : SV × Int) (w' : World) =>
          ∃ (R_1 : PUnit → World → Prop),
            (∃ (R_2 : Bool → World → Prop),
                (CallT [Ty.one Sh.bool] Try.prog (69 : Nat) [] w' fun (x_1 : Bool) (w' : World) =>
                    cnd (!x_1) (R_2 true w') (R_2 (x.snd != (0 : Int)) w')) ∧
                  ∀ (x : Bool) (j : Nat → Value) (w' : World),
                    R_2 x w' →
                      cnd x
                        (CallT [Ty.one Sh.bool] Try.prog (69 : Nat) [] w' fun (x : Bool) (w' : World) =>
                          cnd x
                            (∃ (x : Int × Int × Int × Int × Int × Int × Int × Int × Int),
                              cellsAt w' (Addr.mk w.heap.size (0 : Nat) none)
                                  [Value.int IntKind.u64 x.fst, Value.int IntKind.u64 x.snd.fst,
                                    Value.int IntKind.i64 x.snd.snd.fst, Value.int IntKind.i64 x.snd.snd.snd.fst,
                                    Value.int IntKind.u64 x.snd.snd.snd.snd.fst,
                                    Value.int IntKind.u64 x.snd.snd.snd.snd.snd.fst,
                                    Value.int IntKind.u64 x.snd.snd.snd.snd.snd.snd.fst,
                                    Value.int IntKind.u64 x.snd.snd.snd.snd.snd.snd.snd.fst,
                                    Value.int IntKind.u64 x.snd.snd.snd.snd.snd.snd.snd.snd] ∧
                                CallT [Ty.one Sh.bool] Try.prog (70 : Nat)
                                  [Value.agg
                                      #[Value.int IntKind.u64 x.fst, Value.int IntKind.u64 x.snd.fst,
                                        Value.int IntKind.i64 x.snd.snd.fst, Value.int IntKind.i64 x.snd.snd.snd.fst,
                                        Value.int IntKind.u64 x.snd.snd.snd.snd.fst,
                                        Value.int IntKind.u64 x.snd.snd.snd.snd.snd.fst,
                                        Value.int IntKind.u64 x.snd.snd.snd.snd.snd.snd.fst,
                                        Value.int IntKind.u64 x.snd.snd.snd.snd.snd.snd.snd.fst,
                                        Value.int IntKind.u64 x.snd.snd.snd.snd.snd.snd.snd.snd]]
                                  w' fun (x : Bool) (w' : World) => R (!x) w')
                            (R false w'))
                        (R_1 () w')) ∧
              ∀ (x_1 : PUnit) (j : Nat → Value) (w' : World),
                R_1 x_1 w' →
                  CallT
                    [Ty.agg
                        [Sh.int IntKind.u64, Sh.int IntKind.u64, Sh.int IntKind.i64, Sh.int IntKind.i64, Sh.int IntKind.u64,
                          Sh.int IntKind.u64, Sh.int IntKind.u64, Sh.int IntKind.u64, Sh.int IntKind.u64],
                      Ty.one (Sh.int IntKind.i64)]
                    Try.prog (71 : Nat) [Value.slice x.fst.a x.fst.len x.fst.cap] w'
                    fun (x_2 : (Int × Int × Int × Int × Int × Int × Int × Int × Int) × Int) (w' : World) =>
                    let w1 :=
                      w'.alloc
                        (Obj.cells
                          #[Value.int IntKind.u64 (0 : Int), Value.int IntKind.u64 (0 : Int),
                            Value.int IntKind.i64 (0 : Int), Value.int IntKind.i64 (0 : Int),
                            Value.int IntKind.u64 (0 : Int), Value.int IntKind.u64 (0 : Int),
                            Value.int IntKind.u64 (0 : Int), Value.int IntKind.u64 (0 : Int),
                            Value.int IntKind.u64 (0 : Int)]
                          (92 : Nat));
                    canSt w1 (Addr.mk w'.heap.size (0 : Nat) none) (9 : Nat) ∧
                      let w1 :=
                        setCells w1 (Addr.mk w'.heap.size (0 : Nat) none) (0 : Nat)
                          [Value.int IntKind.u64 x_2.fst.fst, Value.int IntKind.u64 x_2.fst.snd.fst,
                            Value.int IntKind.i64 x_2.fst.snd.snd.fst, Value.int IntKind.i64 x_2.fst.snd.snd.snd.fst,
                            Value.int IntKind.u64 x_2.fst.snd.snd.snd.snd.fst,
                            Value.int IntKind.u64 x_2.fst.snd.snd.snd.snd.snd.fst,
                            Value.int IntKind.u64 x_2.fst.snd.snd.snd.snd.snd.snd.fst,
                            Value.int IntKind.u64 x_2.fst.snd.snd.snd.snd.snd.snd.snd.fst,
                            Value.int IntKind.u64 x_2.fst.snd.snd.snd.snd.snd.snd.snd.snd];
                      ∃ (R_2 : PUnit → World → Prop),
                        cnd (x_2.snd != (0 : Int)) (R false w1)
                            (∃ (x : Int × Int × Int × Int × Int × Int × Int × Int × Int),
                              cellsAt w1 (Addr.mk w'.heap.size (0 : Nat) none)
                                  [Value.int IntKind.u64 x.fst, Value.int IntKind.u64 x.snd.fst,
                                    Value.int IntKind.i64 x.snd.snd.fst, Value.int IntKind.i64 x.snd.snd.snd.fst,
                                    Value.int IntKind.u64 x.snd.snd.snd.snd.fst,
                                    Value.int IntKind.u64 x.snd.snd.snd.snd.snd.fst,
                                    Value.int IntKind.u64 x.snd.snd.snd.snd.snd.snd.fst,
                                    Value.int IntKind.u64 x.snd.snd.snd.snd.snd.snd.snd.fst,
                                    Value.int IntKind.u64 x.snd.snd.snd.snd.snd.snd.snd.snd] ∧
                                ∃ (x_3 : Int × Int × Int × Int × Int × Int × Int × Int × Int),
                                  cellsAt w1 (Addr.mk w.heap.size (0 : Nat) none)
                                      [Value.int IntKind.u64 x_3.fst, Value.int IntKind.u64 x_3.snd.fst,
                                        Value.int IntKind.i64 x_3.snd.snd.fst, Value.int IntKind.i64 x_3.snd.snd.snd.fst,
                                        Value.int IntKind.u64 x_3.snd.snd.snd.snd.fst,
                                        Value.int IntKind.u64 x_3.snd.snd.snd.snd.snd.fst,
                                        Value.int IntKind.u64 x_3.snd.snd.snd.snd.snd.snd.fst,
                                        Value.int IntKind.u64 x_3.snd.snd.snd.snd.snd.snd.snd.fst,
                                        Value.int IntKind.u64 x_3.snd.snd.snd.snd.snd.snd.snd.snd] ∧
                                    cnd
                                      (!(x.fst == x_3.fst &&
                                          (x.snd.fst == x_3.snd.fst &&
                                            (x.snd.snd.fst == x_3.snd.snd.fst &&
                                              (x.snd.snd.snd.fst == x_3.snd.snd.snd.fst &&
                                                (x.snd.snd.snd.snd.fst == x_3.snd.snd.snd.snd.fst &&
                                                  (x.snd.snd.snd.snd.snd.fst == x_3.snd.snd.snd.snd.snd.fst &&
                                                    (x.snd.snd.snd.snd.snd.snd.fst == x_3.snd.snd.snd.snd.snd.snd.fst &&
                                                      (x.snd.snd.snd.snd.snd.snd.snd.fst ==
                                                          x_3.snd.snd.snd.snd.snd.snd.snd.fst &&
                                                        (x.snd.snd.snd.snd.snd.snd.snd.snd ==
                                                            x_3.snd.snd.snd.snd.snd.snd.snd.snd &&
                                                          true))))))))))
                                      (R false w1) (R_2 () w1)) ∧
                          ∀ (x_3 : PUnit) (j : Nat → Value) (w' : World),
                            R_2 x_3 w' →
                              IntKind.u64.wrap (4096 : Int) ≠ (0 : Int) ∧
                                IntKind.u64.wrap (4096 : Int) ≠ (0 : Int) ∧
                                  IntKind.u64.wrap (4096 : Int) ≠ (0 : Int) ∧
                                    let w1 :=
                                      w'.drew.alloc
                                        (Obj.cells
                                          #[Value.int IntKind.i64
                                              (IntKind.i64.wrap
                                                ((IntKind.u64.wrap n2).tmod (IntKind.u64.wrap (4096 : Int)))),
                                            Value.int IntKind.i64
                                              (IntKind.i64.wrap
                                                ((IntKind.u64.wrap n3).tmod (IntKind.u64.wrap (4096 : Int)))),
                                            Value.int IntKind.i64
                                              (IntKind.i64.wrap
                                                ((IntKind.u64.wrap n4).tmod (IntKind.u64.wrap (4096 : Int))))]
                                          (3 : Nat));
                                    ∃ (R_3 : SV → World → Prop),
                                      ((0 : Int) ≤ (0 : Int) ∧
                                          (0 : Int) < (↑(3 : Nat) : Int) ∧
                                            ∃ (x : Int),
                                              w1.drew.cell?
                                                    ((Addr.mk w'.drew.heap.size (0 : Nat) none).add
                                                      (Int.toNat (0 : Int) * (1 : Nat))) =
                                                  some (Value.int IntKind.i64 x) ∧
                                                (0 : Int) ≤ (1 : Int) ∧
                                                  (1 : Int) < (↑(3 : Nat) : Int) ∧
                                                    ∃ (x_4 : Int),
                                                      w1.drew.cell?
                                                            ((Addr.mk w'.drew.heap.size (0 : Nat) none).add
                                                              (Int.toNat (1 : Int) * (1 : Nat))) =
                                                          some (Value.int IntKind.i64 x_4) ∧
                                                        cnd (x == x_4)
                                                          ((0 : Int) ≤ (1 : Int) ∧
                                                            (1 : Int) ≤ (↑(3 : Nat) : Int) ∧
                                                              R_3
                                                                (SV.mk
                                                                  (subA (some (Addr.mk w'.drew.heap.size (0 : Nat) none))
                                                                    (0 : Nat) (1 : Nat) (3 : Nat))
                                                                  (Int.toNat (1 : Int) - (0 : Nat)) ((3 : Nat) - (0 : Nat)))
                                                                w1.drew)
                                                          ((0 : Int) ≤ (1 : Int) ∧
                                                            (1 : Int) < (↑(3 : Nat) : Int) ∧
                                                              ∃ (x : Int),
                                                                w1.drew.cell?
                                                                      ((Addr.mk w'.drew.heap.size (0 : Nat) none).add
                                                                        (Int.toNat (1 : Int) * (1 : Nat))) =
                                                                    some (Value.int IntKind.i64 x) ∧
                                                                  (0 : Int) ≤ (2 : Int) ∧
                                                                    (2 : Int) < (↑(3 : Nat) : Int) ∧
                                                                      ∃ (x_5 : Int),
                                                                        w1.drew.cell?
                                                                              ((Addr.mk w'.drew.heap.size (0 : Nat)
                                                                                    none).add
                                                                                (Int.toNat (2 : Int) * (1 : Nat))) =
                                                                            some (Value.int IntKind.i64 x_5) ∧
                                                                          cnd (x == x_5)
                                                                            ((0 : Int) ≤ (1 : Int) ∧
                                                                              (1 : Int) ≤ (↑(3 : Nat) : Int) ∧
                                                                                R_3
                                                                                  (SV.mk
                                                                                    (subA
                                                                                      (some
                                                                                        (Addr.mk w'.drew.heap.size (0 : Nat)
                                                                                          none))
                                                                                      (0 : Nat) (1 : Nat) (3 : Nat))
                                                                                    (Int.toNat (1 : Int) - (0 : Nat))
                                                                                    ((3 : Nat) - (0 : Nat)))
                                                                                  w1.drew)
                                                                            ((0 : Int) ≤ (0 : Int) ∧
                                                                              (0 : Int) < (↑(3 : Nat) : Int) ∧
                                                                                ∃ (x : Int),
                                                                                  w1.drew.cell?
                                                                                        ((Addr.mk w'.drew.heap.size
                                                                                              (0 : Nat) none).add
                                                                                          (Int.toNat (0 : Int) *
                                                                                            (1 : Nat))) =
                                                                                      some (Value.int IntKind.i64 x) ∧
                                                                                    (0 : Int) ≤ (2 : Int) ∧
                                                                                      (2 : Int) < (↑(3 : Nat) : Int) ∧
                                                                                        ∃ (x_6 : Int),
                                                                                          w1.drew.cell?
                                                                                                ((Addr.mk w'.drew.heap.size
                                                                                                      (0 : Nat) none).add
                                                                                                  (Int.toNat (2 : Int) *
                                                                                                    (1 : Nat))) =
                                                                                              some
                                                                                                (Value.int IntKind.i64
                                                                                                  x_6) ∧
                                                                                            cnd (x == x_6)
                                                                                              ((0 : Int) ≤ (1 : Int) ∧
                                                                                                (1 : Int) ≤
                                                                                                    (↑(3 : Nat) : Int) ∧
                                                                                                  R_3
                                                                                                    (SV.mk
                                                                                                      (subA
                                                                                                        (some
                                                                                                          (Addr.mk
                                                                                                            w'.drew.heap.size
                                                                                                            (0 : Nat) none))
                                                                                                        (0 : Nat) (1 : Nat)
                                                                                                        (3 : Nat))
                                                                                                      (Int.toNat (1 : Int) -
                                                                                                        (0 : Nat))
                                                                                                      ((3 : Nat) -
                                                                                                        (0 : Nat)))
                                                                                                    w1.drew)
                                                                                              (R_3
                                                                                                (SV.mk
                                                                                                  (some
                                                                                                    (Addr.mk
                                                                                                      w'.drew.heap.size
                                                                                                      (0 : Nat) none))
                                                                                                  (3 : Nat) (3 : Nat))
                                                                                                w1.drew)))) ∧
                                        ∀ (x_4 : SV) (j : Nat → Value) (w' : World),
                                          R_3 x_4 w' →
                                            CallT [Ty.one Sh.slice] Try.prog (72 : Nat)
                                              [Value.slice x.fst.a x.fst.len x.fst.cap, Value.slice x_4.a x_4.len x_4.cap]
                                              w' fun (x : SV) (w' : World) =>
                                              CallT
                                                [Ty.agg
                                                    [Sh.int IntKind.u64, Sh.int IntKind.u64, Sh.int IntKind.i64,
                                                      Sh.int IntKind.i64, Sh.int IntKind.u64, Sh.int IntKind.u64,
                                                      Sh.int IntKind.u64, Sh.int IntKind.u64, Sh.int IntKind.u64],
                                                  Ty.one (Sh.int IntKind.i64)]
                                                Try.prog (71 : Nat) [Value.slice x.a x.len x.cap] w'
                                                fun (x_5 : (Int × Int × Int × Int × Int × Int × Int × Int × Int) × Int)
                                                  (w' : World) =>
                                                let w1 :=
                                                  w'.alloc
                                                    (Obj.cells
                                                      #[Value.int IntKind.u64 (0 : Int), Value.int IntKind.u64 (0 : Int),
                                                        Value.int IntKind.i64 (0 : Int), Value.int IntKind.i64 (0 : Int),
                                                        Value.int IntKind.u64 (0 : Int), Value.int IntKind.u64 (0 : Int),
                                                        Value.int IntKind.u64 (0 : Int), Value.int IntKind.u64 (0 : Int),
                                                        Value.int IntKind.u64 (0 : Int)]
                                                      (92 : Nat));
                                                canSt w1 (Addr.mk w'.heap.size (0 : Nat) none) (9 : Nat) ∧
                                                  CallT
                                                    [Ty.agg
                                                        [Sh.int IntKind.u64, Sh.int IntKind.u64, Sh.int IntKind.i64,
                                                          Sh.int IntKind.i64, Sh.int IntKind.u64, Sh.int IntKind.u64,
                                                          Sh.int IntKind.u64, Sh.int IntKind.u64, Sh.int IntKind.u64],
                                                      Ty.one (Sh.int IntKind.i64), Ty.one (Sh.int IntKind.i64)]
                                                    Try.prog (73 : Nat)
                                                    [Value.slice x.a x.len x.cap, Value.slice s1.a s1.len s1.cap]
                                                    (setCells w1 (Addr.mk w'.heap.size (0 : Nat) none) (0 : Nat)
                                                      [Value.int IntKind.u64 x_5.fst.fst,
                                                        Value.int IntKind.u64 x_5.fst.snd.fst,
                                                        Value.int IntKind.i64 x_5.fst.snd.snd.fst,
                                                        Value.int IntKind.i64 x_5.fst.snd.snd.snd.fst,
                                                        Value.int IntKind.u64 x_5.fst.snd.snd.snd.snd.fst,
                                                        Value.int IntKind.u64 x_5.fst.snd.snd.snd.snd.snd.fst,
                                                        Value.int IntKind.u64 x_5.fst.snd.snd.snd.snd.snd.snd.fst,
                                                        Value.int IntKind.u64 x_5.fst.snd.snd.snd.snd.snd.snd.snd.fst,
                                                        Value.int IntKind.u64 x_5.fst.snd.snd.snd.snd.snd.snd.snd.snd])
                                                    fun
                                                      (x :
                                                        (Int × Int × Int × Int × Int × Int × Int × Int × Int) × Int × Int)
                                                      (w'_1 : World) =>
                                                    let w1 :=
                                                      w'_1.alloc
                                                        (Obj.cells
                                                          #[Value.int IntKind.u64 (0 : Int),
                                                            Value.int IntKind.u64 (0 : Int),
                                                            Value.int IntKind.i64 (0 : Int),
                                                            Value.int IntKind.i64 (0 : Int),
                                                            Value.int IntKind.u64 (0 : Int),
                                                            Value.int IntKind.u64 (0 : Int),
                                                            Value.int IntKind.u64 (0 : Int),
                                                            Value.int IntKind.u64 (0 : Int),
                                                            Value.int IntKind.u64 (0 : Int)]
                                                          (92 : Nat));
                                                    canSt w1 (Addr.mk w'_1.heap.size (0 : Nat) none) (9 : Nat) ∧
                                                      let w1 :=
                                                        setCells w1 (Addr.mk w'_1.heap.size (0 : Nat) none) (0 : Nat)
                                                          [Value.int IntKind.u64 x.fst.fst,
                                                            Value.int IntKind.u64 x.fst.snd.fst,
                                                            Value.int IntKind.i64 x.fst.snd.snd.fst,
                                                            Value.int IntKind.i64 x.fst.snd.snd.snd.fst,
                                                            Value.int IntKind.u64 x.fst.snd.snd.snd.snd.fst,
                                                            Value.int IntKind.u64 x.fst.snd.snd.snd.snd.snd.fst,
                                                            Value.int IntKind.u64 x.fst.snd.snd.snd.snd.snd.snd.fst,
                                                            Value.int IntKind.u64 x.fst.snd.snd.snd.snd.snd.snd.snd.fst,
                                                            Value.int IntKind.u64 x.fst.snd.snd.snd.snd.snd.snd.snd.snd];
                                                      cnd (x_5.snd == (5 : Int))
                                                        (∃ (x_6 : Int × Int × Int × Int × Int × Int × Int × Int × Int),
                                                          cellsAt w1 (Addr.mk w'.heap.size (0 : Nat) none)
                                                              [Value.int IntKind.u64 x_6.fst,
                                                                Value.int IntKind.u64 x_6.snd.fst,
                                                                Value.int IntKind.i64 x_6.snd.snd.fst,
                                                                Value.int IntKind.i64 x_6.snd.snd.snd.fst,
                                                                Value.int IntKind.u64 x_6.snd.snd.snd.snd.fst,
                                                                Value.int IntKind.u64 x_6.snd.snd.snd.snd.snd.fst,
                                                                Value.int IntKind.u64 x_6.snd.snd.snd.snd.snd.snd.fst,
                                                                Value.int IntKind.u64 x_6.snd.snd.snd.snd.snd.snd.snd.fst,
                                                                Value.int IntKind.u64 x_6.snd.snd.snd.snd.snd.snd.snd.snd] ∧
                                                            cnd
                                                              (x_6.fst == (0 : Int) &&
                                                                (x_6.snd.fst == (0 : Int) &&
                                                                  (x_6.snd.snd.fst == (0 : Int) &&
                                                                    (x_6.snd.snd.snd.fst == (0 : Int) &&
                                                                      (x_6.snd.snd.snd.snd.fst == (0 : Int) &&
                                                                        (x_6.snd.snd.snd.snd.snd.fst == (0 : Int) &&
                                                                          (x_6.snd.snd.snd.snd.snd.snd.fst == (0 : Int) &&
                                                                            (x_6.snd.snd.snd.snd.snd.snd.snd.fst ==
                                                                                (0 : Int) &&
                                                                              (x_6.snd.snd.snd.snd.snd.snd.snd.snd ==
                                                                                  (0 : Int) &&
                                                                                true)))))))))
                                                              (R (x.snd.snd == (5 : Int)) w1) (R false w1))
                                                        (R false w1))
  : CallT [Ty.one Sh.bool] Try.prog 16 [Value.agg
    #[Value.int IntKind.u64 x0.fst, Value.int IntKind.u64 x0.snd.fst, Value.int IntKind.i64 x0.snd.snd.fst,
      Value.int IntKind.i64 x0.snd.snd.snd.fst, Value.int IntKind.u64 x0.snd.snd.snd.snd.fst,
      Value.int IntKind.u64 x0.snd.snd.snd.snd.snd.fst, Value.int IntKind.u64 x0.snd.snd.snd.snd.snd.snd.fst,
      Value.int IntKind.u64 x0.snd.snd.snd.snd.snd.snd.snd.fst,
      Value.int IntKind.u64 x0.snd.snd.snd.snd.snd.snd.snd.snd],
  Value.slice s1.a s1.len s1.cap, Value.int IntKind.i64 n2, Value.int IntKind.i64 n3, Value.int IntKind.i64 n4] w R :=
  fnV_sound (h := HT.z.sq
  (HT.z.sq
    (HT.jn [] (HT.jn [((33 : Nat), Ty.one Sh.bool)] HT.z HT.z)
      (HT.z.sq
        (HT.jn [] HT.z
          (HT.z.sq
            ((HT.rg (18 : Nat)).sq (HT.jn [((16 : Nat), Ty.one Sh.slice)] ((HT.rg (25 : Nat)).sq HT.z) HT.z)))))))) Try.func16 (by kernel_rfl) (by kernel_rfl) (Eq.mp (by kernel_rfl) h)

end Go.Proofs
/- A sealed sector with one to three turned bits is not one. Conditions: those of each lemma. -/
namespace Go.Proofs
open Go Go.Vc Go.Crc
def bitOf (k : Int) : UInt8 := if 0 ≤ k ∧ k < 8 then UInt8.ofNat (2 ^ k.toNat) else 0
theorem turn1_zero {l : List UInt8} (h : 0 < l.length) (k : Int) : (turn1 l k).getD 0 0 = l.getD 0 0 ^^^ bitOf k := by
  unfold turn1 bitOf
  by_cases h1 : 0 ≤ k ∧ k < 8
  · have h2 : k / 8 = 0 := by omega
    have h3 : k % 8 = k := by omega
    rw [if_pos ⟨h1.1, by omega⟩, if_pos h1, h2, h3]
    simp [List.getD_eq_getElem?_getD, h]
  · rw [if_neg h1]
    split
    · rename_i h4
      have h5 : (k / 8).toNat ≠ 0 := by omega
      rw [List.getD_eq_getElem?_getD, List.getElem?_set_ne h5, ← List.getD_eq_getElem?_getD]
      simp
    · simp
theorem bitOf_cases (k : Int) : ∃ i : Fin 9, bitOf k = (if i.val < 8 then UInt8.ofNat (2 ^ i.val) else 0) := by
  unfold bitOf
  by_cases h : 0 ≤ k ∧ k < 8
  · refine ⟨⟨k.toNat, by omega⟩, ?_⟩
    rw [if_pos h, if_pos (by show k.toNat < 8; omega)]
  · exact ⟨⟨8, by decide⟩, by rw [if_neg h]; rfl⟩
theorem four : ∀ k0 ∈ [(23 : UInt8), 43, 77, 142, 113, 178], ∀ a b c : Fin 9, k0 ^^^ (if a.val < 8 then UInt8.ofNat (2 ^ a.val) else 0) ^^^ (if b.val < 8 then UInt8.ofNat (2 ^ b.val) else 0) ^^^ (if c.val < 8 then UInt8.ofNat (2 ^ c.val) else 0) ≠ 0 := by decide +kernel
theorem known_mem {k : UInt8} (h : knownK k = true) : k ∈ [(23 : UInt8), 43, 77, 142, 113, 178] := by
  unfold knownK at h
  simpa [or_assoc] using h
/-- One to three bits, each another one. -/
def Bits3 (n : Nat) (ks : List Int) : Prop := (∃ i : Nat, i < n ∧ ks = [(i : Int)]) ∨ ∃ i j k : Nat, (i < n ∧ j < n ∧ k < n) ∧ (i ≠ j ∧ j ≠ k ∧ i ≠ k) ∧ ks = [(i : Int), (j : Int), (k : Int)]
theorem turned_first {l : List UInt8} (h : 0 < l.length) (hk : knownK (l.getD 0 0) = true) {n : Nat} {ks : List Int} (hb : Bits3 n ks) : (turns l ks).getD 0 0 ≠ 0 := by
  have hm := known_mem hk
  rcases hb with ⟨i, _, rfl⟩ | ⟨i, j, k, _, _, rfl⟩
  · rw [show turns l [(i : Int)] = turn1 l i from rfl, turn1_zero h]
    obtain ⟨a, ha⟩ := bitOf_cases i
    rw [ha]
    have h9 := four _ hm a 8 8
    have e8 : (if (8 : Fin 9).val < 8 then UInt8.ofNat (2 ^ (8 : Fin 9).val) else 0) = (0 : UInt8) := rfl
    rw [e8, UInt8.xor_zero, UInt8.xor_zero] at h9
    exact h9
  · rw [show turns l [(i : Int), (j : Int), (k : Int)] = turn1 (turn1 (turn1 l i) j) k from rfl, turn1_zero (by rw [turn1_len, turn1_len]; exact h), turn1_zero (by rw [turn1_len]; exact h), turn1_zero h]
    obtain ⟨a, ha⟩ := bitOf_cases i
    obtain ⟨b, hb⟩ := bitOf_cases j
    obtain ⟨c, hc⟩ := bitOf_cases k
    rw [ha, hb, hc]
    exact four _ hm a b c
theorem turned_bad {l : List UInt8} (h : l.length = 512) (hk : knownK (l.getD 0 0) = true) (hr : rightB l = true) {ks : List Int} (hb : Bits3 4096 ks) : (openR (turns l ks)).2 = 30 := by
  have hl : (turns l ks).length = 512 := by rw [turns_len, h]
  have hz : allZ (turns l ks) = false := by
    cases hz : allZ (turns l ks) with
    | false => rfl
    | true =>
      exfalso
      apply turned_first (by omega) hk hb
      rw [List.getD_eq_getElem?_getD, List.getElem?_eq_getElem (by omega)]
      have := List.all_eq_true.1 hz _ (List.getElem_mem (by omega : 0 < (turns l ks).length))
      simpa using this
  have hrf : rightB (turns l ks) = false := by
    refine right_turned (by omega) hr ks ?_
    rw [h]
    rcases hb with ⟨i, hi, rfl⟩ | ⟨i, j, k, ⟨hi, hj, hk⟩, _, rfl⟩
    · exact ers1 hi
    · exact ers3 hi hj hk
  rw [openR, if_neg (by omega), if_neg (by rw [hz]; simp), if_pos hrf]
end Go.Proofs
/- dunnageref02.Turn, and what the statements of chapter 02 hold bytes and their sums against. Conditions: those of each contract. -/
namespace Go.Proofs
open Go Go.Vc Go.Crc
def I64 (l : List Int) : List Value := l.map (Value.int .i64)
abbrev RdI (w : World) (s : SV) (l : List Int) : Prop := Rd w 1 s (I64 l)
theorem _root_.Go.Vc.Rd.lenI {w : World} {s : SV} {l : List Int} (h : RdI w s l) : s.len = l.length := by have := h.len; simp [I64] at this; exact this.symm
theorem _root_.Go.Vc.Rd.cellI {w : World} {s : SV} {l : List Int} (h : RdI w s l) {i : Nat} {b : Int} (hb : l[i]? = some b) {A : Addr} (hA : s.a = some A) : w.cell? (A.add (i * 1)) = some (.int .i64 b) := by
  rw [Nat.mul_one]; exact h.at_ A hA i _ (by simp [I64, hb])
theorem SV.getI {w : World} {s : SV} {l : List Int} (h : RdI w s l) {i : Nat} (hi : i < l.length) {K : Addr → Prop} (hk : ∀ A, s.a = some A → K A) : onP s.a K := by
  cases hA : s.a with
  | none => have := h.nil hA; rw [h.lenI] at this; omega
  | some A => exact hk A hA
theorem turns_take {l : List UInt8} {ks : List Int} {i : Nat} {k : Int} (h : ks[i]? = some k) : turns l (ks.take (i + 1)) = turn1 (turns l (ks.take i)) k := by
  rw [List.take_add_one, h, Option.toList_some]; simp [turns, List.foldl_append]
theorem dunnageref02_Turn.spec {w : World} {s t : SV} {l : List UInt8} {ks : List Int} (hs : RdB w s l) (ht : RdI w t ks) (hl : l.length ≤ 140737488351232) (hk : ks.length < 2 ^ 62) (hr : ∀ k ∈ ks, -9223372036854775808 ≤ k ∧ k ≤ 9223372036854775807) :
    CallT [.one .slice] Try.prog F.dunnageref02_Turn [.slice s.a s.len s.cap, .slice t.a t.len t.cap] w fun o w' => OwnB w' w.heap.size o (turns l ks) ∧ Ext w w' := by
  refine dunnageref02_Turn.vc s t w _ ?_
  have hsl := hs.lenB
  have htl := ht.lenI
  refine app_rd (s := ⟨none, 0, 0⟩) (cs := []) appB (Upd.refl (fun _ => False) _) (Own.nil _ _ _ _) hs (B8_one _) (fun hlt => by simp only [Nat.zero_add] at hlt ⊢; rw [nextcap_zero hlt]; omega) ?_
  intro o w1 ho e1 _ _
  have ho : OwnB w1 w.heap.size o l := ho
  have hol := ho.lenB
  refine ⟨fun n x w' => ∃ i : Nat, x = (i : Int) ∧ i ≤ ks.length ∧ n = ks.length - i ∧ OwnB w' w.heap.size o (turns l (ks.take i)) ∧ Ext w w', ⟨_, 0, rfl, by omega, rfl, ho, e1⟩, ?_⟩
  rintro n _ j w2 ⟨i, rfl, hi, rfl, hown, he⟩
  refine cnd_dec (fun hlt => ?_) (fun hge => ?_)
  · have hik : i < ks.length := by omega
    have hx : ks[i]? = some ks[i] := List.getElem?_eq_getElem hik
    have hrk := hr _ (List.getElem_mem hik)
    have hT := turns_take (l := l) hx
    have hlen : (turns l (ks.take i)).length = l.length := turns_len _ _
    generalize ks[i] = k at hx hrk hT
    have hw : IntKind.i64.wrap ((i : Int) + 1) = ((i + 1 : Nat) : Int) := by rw [i64_id] <;> omega
    have ht2 := ht.ext he
    refine ⟨fun b w' => w2 = w' ∧ b = decide (0 ≤ k ∧ k / 8 < l.length), ⟨by omega, by omega, SV.getI ht hik fun A hA => ⟨k, ht2.cellI hx hA, ?_⟩⟩, ?_⟩
    · refine cnd_dec (fun hk0 => ?_) (fun hneg => ⟨rfl, by simp; omega⟩)
      refine ⟨by omega, by omega, SV.getI ht hik fun A hA => ⟨k, ht2.cellI hx hA, rfl, ?_⟩⟩
      rw [Int.tdiv_eq_ediv_of_nonneg hk0, i64_id (by omega) (by omega), hol]
      simp [hk0]
    · rintro _ _ _ ⟨rfl, rfl⟩
      refine cnd_dec (fun hin => ?_) (fun hout => ?_)
      · obtain ⟨q, rfl⟩ : ∃ q : Nat, k = q := ⟨k.toNat, by omega⟩
        have hq : q / 8 < (turns l (ks.take i)).length := by omega
        have hdiv : IntKind.i64.wrap ((q : Int).tdiv 8) = ((q / 8 : Nat) : Int) := by rw [Int.tdiv_eq_ediv_of_nonneg (by omega), i64_id] <;> omega
        have hmod : IntKind.u64.wrap ((q : Int).tmod 8) = ((q % 8 : Nat) : Int) := by rw [Int.tmod_eq_emod_of_nonneg (by omega), u64_id] <;> omega
        have htd := ht2.drew
        have hod : OwnB w2.drew w.heap.size o (turns l (ks.take i)) := hown.ext (ext_drew _)
        refine ⟨by omega, by omega, SV.getI ht hik fun A hA => ⟨_, htd.cellI hx hA, by omega, by omega, SV.getI ht hik fun A hA => ⟨_, htd.cellI hx hA, ?_⟩⟩⟩
        rw [hdiv]
        refine ⟨by omega, by omega, SV.getB hod.rd hq fun A hA => ⟨_, by rw [Int.toNat_natCast]; exact hod.rd.cellB (List.getElem?_eq_getElem hq) hA, by omega, by omega, SV.getI ht hik fun A' hA' => ⟨_, htd.cellI hx hA', ?_⟩⟩⟩
        rw [hmod, Int.toNat_natCast]
        refine ⟨by omega, by omega, by omega, ?_⟩
        have hsh : shl .u8 1 ((q % 8 : Nat) : Int) = ((2 ^ (q % 8) : Nat) : Int) := by
          have := shl_nat (k := .u8) (a := 1) (b := q % 8) rfl (by simp only [IntKind.bits]; omega)
          rw [Nat.one_mul, Nat.mod_eq_of_lt (Nat.pow_lt_pow_right (by decide) (by simp only [IntKind.bits]; omega))] at this
          exact this
        have h3 : (UInt8.ofNat (2 ^ (q % 8))).toNat = 2 ^ (q % 8) := by
          rw [UInt8.toNat_ofNat']
          exact Nat.mod_eq_of_lt (Nat.pow_lt_pow_right (by decide) (by omega))
        have hbx : bxor .u8 (((turns l (ks.take i))[q / 8]).toNat : Int) ((2 ^ (q % 8) : Nat) : Int) = ((((turns l (ks.take i))[q / 8]) ^^^ UInt8.ofNat (2 ^ (q % 8))).toNat : Int) := by
          rw [UInt8.toNat_xor, h3]
          exact bxor_nat (k := .u8) rfl (UInt8.toNat_lt _) (Nat.pow_lt_pow_right (by decide) (show q % 8 < 8 by omega))
        rw [hsh, hbx]
        have hT' : turns l (ks.take (i + 1)) = (turns l (ks.take i)).set (q / 8) ((turns l (ks.take i))[q / 8] ^^^ UInt8.ofNat (2 ^ (q % 8))) := by
          rw [hT, turn1, if_pos ⟨by omega, by omega⟩]
          have h1 : ((q : Int) / 8).toNat = q / 8 := by omega
          have h2 : ((q : Int) % 8).toNat = q % 8 := by omega
          rw [h1, h2]
          simp [List.getD, hq]
        rcases hod.is with ⟨h1, _⟩ | ⟨b, rest, ha, hB, hb, hcap, hle⟩
        · rw [h1] at hA; simp at hA
        · rw [ha]
          have hkb : q / 8 < (B8 (turns l (ks.take i)) ++ rest).length := by rw [List.length_append, B8_length]; omega
          simp only [onP_some, Nat.mul_one, add_mk, Nat.zero_add]
          refine set_ok hb (by simpa using hkb) ⟨ks.length - (i + 1), by omega, i + 1, hw, by omega, rfl, ?_, he.drew.set (p := ⟨b, q / 8, none⟩) (fun h => by simp only at h; omega) _⟩
          have hset : ∀ v : UInt8, (B8 (turns l (ks.take i)) ++ rest).set (q / 8) (.int .u8 (v.toNat : Int)) = B8 ((turns l (ks.take i)).set (q / 8) v) ++ rest := fun v => by
            rw [List.set_append_left _ _ (by rw [B8_length]; exact hq)]
            simp [B8, List.map_set]
          rw [hT']
          refine ⟨by rw [B8_length, List.length_set, Nat.mul_one, hlen, hol], .inr ⟨b, rest, ha, hB, ?_, ?_, hle⟩⟩
          · rw [blk_set hb, List.setIfInBounds_toArray, hset]
          · rw [← hset, List.length_set]; exact hcap
      · refine ⟨ks.length - (i + 1), by omega, i + 1, hw, by omega, rfl, ?_, he⟩
        rw [hT, turn1, if_neg (by rwa [hlen])]
        exact hown
  · have : i = ks.length := by omega
    subst this
    rw [List.take_length] at hown
    exact ⟨hown, he⟩
end Go.Proofs
/- dunnagelaw27.ManifestBack: what is written is read; with one to three turned bits it is said to be bad. Conditions: what came in is of the sizes that the form allows. -/
namespace Go.Proofs
open Go Go.Vc Go.Crc
theorem wrM_first {m : Man} (_h : May m) : (wrM m).getD 0 0 = 23 := by rw [wrM, sealB_eq]; rfl
theorem readM_turned {m : Man} (h : May m) {ks : List Int} (hb : Bits3 4096 ks) : readM (turns (wrM m) ks) = (Man.z, 5) :=
  readM_bad (by rw [turned_bad (wrM_len h) (by rw [wrM_first h]; decide) (right_behind _) hb]; decide)
theorem bits_ok {ks : List Int} (hb : Bits3 4096 ks) : ks.length < 2 ^ 62 ∧ ∀ k ∈ ks, -9223372036854775808 ≤ k ∧ k ≤ 9223372036854775807 := by
  rcases hb with ⟨i, hi, rfl⟩ | ⟨i, j, k, ⟨hi, hj, hk⟩, _, rfl⟩
  · refine ⟨by simp, fun x hx => ?_⟩
    simp only [List.mem_cons, List.not_mem_nil, or_false] at hx
    omega
  · refine ⟨by simp, fun x hx => ?_⟩
    simp only [List.mem_cons, List.not_mem_nil, or_false] at hx
    omega
theorem mod4096 (x : Int) : ∃ n : Nat, IntKind.i64.wrap ((IntKind.u64.wrap x).tmod (IntKind.u64.wrap 4096)) = n ∧ n < 4096 := by
  have h1 : IntKind.u64.wrap 4096 = 4096 := by decide
  have h2 : 0 ≤ IntKind.u64.wrap x := by rw [u64_mod]; omega
  rw [h1, Int.tmod_eq_emod_of_nonneg h2, i64_id (by omega) (by omega)]
  exact ⟨(IntKind.u64.wrap x % 4096).toNat, by omega, by omega⟩
set_option maxRecDepth 100000 in
set_option maxHeartbeats 1000000 in
theorem dunnagelaw27_ManifestBack.spec {w : World} {m : Man} (hu : U9 m) {s : SV} {a : List UInt8} {n1 n2 n3 : Int} (ha : RdB w s a) (hac : s.len ≤ s.cap) (ham : s.cap ≤ 140737488351232) :
    CallT [.one .bool] Try.prog F.dunnagelaw27_ManifestBack [.agg (m9v m.t).toArray, .slice s.a s.len s.cap, .int .i64 n1, .int .i64 n2, .int .i64 n3] w fun r w' => r = true ∧ Ext w w' := by
  refine dunnagelaw27_ManifestBack.vc m.t s n1 n2 n3 w _ ?_
  have hal := ha.lenB
  generalize hc1 : w.alloc _ = w1
  obtain ⟨b1, e1, z1⟩ := bk_new (T := T.api_Manifest) (vs := m9v m.t) hc1
  dsimp only
  refine ⟨m.t, b1.all, CallT.mono (manifest_Write.spec hu w1) ?_⟩
  rintro ⟨x, ex⟩ w2 ⟨hx, hex, e2⟩
  dsimp only at hx hex ⊢
  have f2 := e1.tr e2
  have b2 := b1.ext e2
  refine ⟨fun _ v => Ext w2 v ∧ May m, ⟨fun b v => Ext w2 v ∧ (b = true ↔ ¬ May m), CallT.mono (awake27.spec w2) ?_, ?_⟩, ?_⟩
  · rintro _ w3 ⟨rfl, e3⟩
    refine cnd_neg rfl ⟨e3, ?_⟩
    rw [hex, writeM]
    by_cases h : May m
    · rw [if_pos h]; simp [h]
    · rw [if_neg h]; simp [h]
  · rintro b _ w3 ⟨e3, hb⟩
    cases b with
    | false => exact cnd_neg rfl ⟨e3, by by_cases h : May m; exact h; exact absurd (hb.2 h) (by simp)⟩
    | true =>
      refine cnd_pos rfl (CallT.mono (awake27.spec w3) ?_)
      rintro _ w4 ⟨rfl, e4⟩
      refine cnd_pos rfl ⟨m.t, ((b2.ext e3).ext e4).all, CallT.mono (manifest_May.spec m w4) ?_⟩
      rintro _ w5 ⟨rfl, e5⟩
      exact ⟨by simp [hb.1 rfl], ((f2.tr e3).tr e4).tr e5⟩
  rintro _ _ w3 ⟨e3, hm⟩
  rw [writeM, if_pos hm] at hx
  dsimp only at hx
  have hwl := wrM_len hm
  have f3 := f2.tr e3
  have hx3 := hx.rd.ext e3
  have hxc := hx.cap
  have b3 := b2.ext e3
  refine CallT.mono (manifest_Read.spec hx3 hxc (by omega)) ?_
  rintro ⟨y, ey⟩ w4 ⟨hy, hey, e4⟩
  rw [readM_wr hm] at hy hey
  dsimp only at hy hey ⊢
  subst hy hey
  generalize ha5 : w4.alloc _ = w5
  generalize hd5 : setCells w5 _ 0 _ = w6
  obtain ⟨c6, b6, e6, z6⟩ := bk_mk (T := T.api_Manifest) (z := zMan) (vs := m9v m.t) ha5 hd5 rfl
  have f6 := (f3.tr e4).tr e6
  have hx6 := (hx3.ext e4).ext e6
  refine ⟨c6, fun _ v => w6 = v, cnd_neg rfl ⟨m.t, b6.all, m.t, ((b3.ext e4).ext e6).all, cnd_neg (by rw [meq_self]; rfl) rfl⟩, ?_⟩
  rintro _ _ _ rfl
  obtain ⟨i, hi, hi4⟩ := mod4096 n1
  obtain ⟨j, hj, hj4⟩ := mod4096 n2
  obtain ⟨k, hk, hk4⟩ := mod4096 n3
  rw [hi, hj, hk]
  have f6d := f6.tr (ext_drew w6)
  have hx6d := hx6.ext (ext_drew w6)
  generalize w6.drew = w7 at *
  generalize ha8 : w7.alloc _ = w8
  obtain ⟨b8, e8, z8⟩ := bk_new (T := T.int) (vs := [.int .i64 i, .int .i64 j, .int .i64 k]) ha8
  have e8d := e8.tr (ext_drew w8)
  have b8d := b8.ext (ext_drew w8)
  simp only [subA_zero]
  generalize w8.drew = w9 at *
  have f9 := f6d.tr e8d
  have hx9 := hx6d.ext e8d
  have one : Bits3 4096 [(i : Int)] := .inl ⟨i, hi4, rfl⟩
  have rd1 : RdI w9 ⟨some ⟨w7.heap.size, 0, none⟩, 1, 3⟩ [(i : Int)] := ⟨rfl, fun h => by simp at h, fun A hA => by
    obtain rfl := Option.some.inj hA
    exact b8d.all.take 1⟩
  have rd3 : RdI w9 ⟨some ⟨w7.heap.size, 0, none⟩, 3, 3⟩ [(i : Int), (j : Int), (k : Int)] := ⟨rfl, fun h => by simp at h, fun A hA => by
    obtain rfl := Option.some.inj hA
    exact b8d.all⟩
  refine ⟨by decide, by decide, by decide, fun t v => w9 = v ∧ ∃ ks, RdI w9 t ks ∧ Bits3 4096 ks, ?_, ?_⟩
  · refine ⟨by decide, by decide, (i : Int), b8d.get 0 rfl, by decide, by decide, (j : Int), b8d.get 1 rfl, cnd_beq (fun h => ⟨by decide, by decide, rfl, _, rd1, one⟩) fun h1 => ?_⟩
    refine ⟨by decide, by decide, (j : Int), b8d.get 1 rfl, by decide, by decide, (k : Int), b8d.get 2 rfl, cnd_beq (fun h => ⟨by decide, by decide, rfl, _, rd1, one⟩) fun h2 => ?_⟩
    refine ⟨by decide, by decide, (i : Int), b8d.get 0 rfl, by decide, by decide, (k : Int), b8d.get 2 rfl, cnd_beq (fun h => ⟨by decide, by decide, rfl, _, rd1, one⟩) fun h3 => ?_⟩
    exact ⟨rfl, _, rd3, .inr ⟨i, j, k, ⟨hi4, hj4, hk4⟩, ⟨by omega, by omega, by omega⟩, rfl⟩⟩
  rintro t _ _ ⟨rfl, ks, hks, hb⟩
  obtain ⟨hk1, hk2⟩ := bits_ok hb
  refine CallT.mono (dunnageref02_Turn.spec hx9 hks (by omega) hk1 hk2) ?_
  rintro o w10 ⟨ho, e10⟩
  have hol := ho.lenB
  rw [turns_len] at hol
  have f10 := f9.tr e10
  refine CallT.mono (manifest_Read.spec ho.rd ho.cap_le (by rw [turns_len]; omega)) ?_
  rintro ⟨y, ey⟩ w11 ⟨hy, hey, e11⟩
  rw [readM_turned hm hb] at hy hey
  dsimp only at hy hey ⊢
  subst hy hey
  generalize ha12 : w11.alloc _ = w12
  generalize hd12 : setCells w12 _ 0 _ = w13
  obtain ⟨c13, b13, e13, z13⟩ := bk_mk (T := T.api_Manifest) (z := zMan) (vs := m9v Man.z.t) ha12 hd12 rfl
  have f13 := (f10.tr e11).tr e13
  refine ⟨c13, CallT.mono (manifest_Choose.spec ((ho.rd.ext e11).ext e13) ho.cap_le (by rw [turns_len]; omega) (ha.ext f13) hac (by omega)) ?_⟩
  rintro ⟨g, gi, ge⟩ w14 ⟨hg, hgi, hge, e14⟩
  rw [ch1 (by rw [readM_turned hm hb]; exact .inl rfl), readM_turned hm hb] at hg hgi hge
  dsimp only at hg hgi hge ⊢
  subst hg hgi hge
  generalize ha15 : w14.alloc _ = w15
  generalize hd15 : setCells w15 _ 0 _ = w16
  obtain ⟨c16, b16, e16, z16⟩ := bk_mk (T := T.api_Manifest) (z := zMan) (vs := m9v Man.z.t) ha15 hd15 rfl
  refine ⟨c16, cnd_pos rfl ⟨Man.z.t, ((b13.ext e14).ext e16).all, cnd_pos (by decide) ⟨rfl, (f13.tr e14).tr e16⟩⟩⟩
theorem dunnagelaw27_ManifestBack.row {w : World} {bd : TypeId → Nat → Prop} {bs : Nat → Prop} {a0 : Array Value} {s : SV} {a : List UInt8} {n1 n2 n3 : Int} (h : DS.rel w bd bs (.struct (.cons 0 1 (.int .u64) (.cons 1 1 (.int .u64) (.cons 2 1 (.int .i64) (.cons 3 1 (.int .i64) (.cons 4 1 (.int .u64) (.cons 5 1 (.int .u64) (.cons 6 1 (.int .u64) (.cons 7 1 (.int .u64) (.cons 8 1 (.int .u64) .nil)))))))))) a0.toList) (g : a0.size = 9)
    (ha : RdB w s a) (hac : s.len ≤ s.cap) (ham : s.cap ≤ 140737488351232) :
    CallT [.one .bool] Try.prog F.dunnagelaw27_ManifestBack [.agg a0, .slice s.a s.len s.cap, .int .i64 n1, .int .i64 n2, .int .i64 n3] w fun r w' => r = true ∧ Ext w w' := by
  obtain ⟨m, rfl, hu⟩ := man_rel h g
  exact dunnagelaw27_ManifestBack.spec hu ha hac ham
end Go.Proofs
