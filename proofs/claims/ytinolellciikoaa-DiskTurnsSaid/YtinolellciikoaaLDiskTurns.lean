/- dunnagelaw04.DiskTurns: a turned bit is one bit of one sector; turned twice it is as it was. Conditions: the script is readable. -/
import Derived.Test.YtinolellciikoaaCond0
import Derived.Test.YtinolellciikoaaDisk6
namespace Go.Proofs
open Go Go.Vc
theorem read_plain {D : DK} (hd : D.down = false) (hw : D.waits = []) {i : Nat} {x : Sec} (hx : D.kept[i]? = some x) : readD D (i : Int) = (x.1, 0) := by
  have hi := (List.getElem?_eq_some_iff.1 hx).1
  rw [readD, if_neg (by rw [hd]; simp), if_neg (by omega)]
  simp only [showD, hw, lastW, List.foldl_nil, Int.toNat_natCast, List.getD_eq_getElem?_getD, hx, Option.getD_some]
/-- What a turn does to a byte. -/
def difB (p : Bool) (b k : Nat) : UInt8 := if p = true ∧ k = b / 8 then bitB b else 0
def turnS (p : Bool) (x : Sec) (b : Nat) : Sec := if p = true then flipS x b else x
theorem turnS_at {p : Bool} {x : Sec} {b k : Nat} {a : UInt8} (h : x.1[k]? = some a) : (turnS p x b).1[k]? = some (a ^^^ difB p b k) := by
  have hk := (List.getElem?_eq_some_iff.1 h).1
  cases p with
  | false => rw [turnS, if_neg (by simp), h, difB, if_neg (by simp), UInt8.xor_zero]
  | true =>
    rw [turnS, if_pos rfl, flipS, difB]
    by_cases hb : k = b / 8
    · subst hb
      rw [if_pos ⟨rfl, rfl⟩, List.getElem?_set_self hk, List.getD_eq_getElem?_getD, h]; rfl
    · rw [if_neg (fun h => hb h.2), List.getElem?_set_ne (fun h => hb h.symm), h, UInt8.xor_zero]
theorem bitB_nat (b : Nat) : (bitB b).toNat = 2 ^ (b % 8) := by
  have : 2 ^ (b % 8) < 2 ^ 8 := Nat.pow_lt_pow_right (by decide) (by omega)
  rw [bitB]; simp; omega
theorem bit_less : ∀ m : Fin 8, band .u8 ((2 ^ m.val : Nat) : Int) (IntKind.u8.wrap (((2 ^ m.val : Nat) : Int) - 1)) = 0 := by decide +kernel
theorem bxor_B (a b : UInt8) : bxor .u8 (a.toNat : Int) (b.toNat : Int) = ((a ^^^ b).toNat : Int) := by
  rw [bxor_nat (k := .u8) rfl (a := a.toNat) (b := b.toNat) a.toNat_lt b.toNat_lt, UInt8.toNat_xor]
theorem xor_back (a e : UInt8) : a ^^^ (a ^^^ e) = e := by rw [← UInt8.xor_assoc, UInt8.xor_self, UInt8.zero_xor]
theorem shl_bit {m : Nat} (hm : m < 8) : shl .u8 1 (m : Int) = ((UInt8.ofNat (2 ^ m)).toNat : Int) := by
  have hlt : 2 ^ m < 256 := by
    have : 2 ^ m < 2 ^ 8 := Nat.pow_lt_pow_right (by decide) hm
    omega
  have := shl_nat (k := .u8) (a := 1) (b := m) rfl (by simp only [IntKind.bits]; omega)
  rw [Nat.one_mul, Nat.mod_eq_of_lt (by simpa [IntKind.bits] using hlt)] at this
  have h2 : (UInt8.ofNat (2 ^ m)).toNat = 2 ^ m := by simp; omega
  rw [h2]; exact this
def cntB (p : Bool) (b k : Nat) : Nat := if p = true ∧ b / 8 < k then 1 else 0
theorem flipS_twice (x : Sec) (b : Nat) (hb : b < 4096) : flipS (flipS x b) b = x := by
  apply Subtype.ext
  apply List.ext_getElem?
  intro k
  by_cases hk : k < x.1.length
  · have h := List.getElem?_eq_getElem hk
    have h1 := turnS_at (p := true) (b := b) h
    have h2 := turnS_at (p := true) (b := b) h1
    rw [turnS, if_pos rfl, turnS, if_pos rfl] at h2
    rw [h2, h, UInt8.xor_assoc, UInt8.xor_self, UInt8.xor_zero]
  · rw [List.getElem?_eq_none (by have := (flipS (flipS x b) b).2; have := x.2; omega), List.getElem?_eq_none (by omega)]
set_option maxRecDepth 100000 in
theorem dunnagelaw04_DiskTurns.spec {w : World} {s0 : SV} {l0 : List OpV} (hs0 : RdOps w s0 l0) (n1 n2 : Int) (g1 : -9223372036854775808 ≤ n1 ∧ n1 ≤ 9223372036854775807) (g2 : -9223372036854775808 ≤ n2 ∧ n2 ≤ 9223372036854775807) :
    CallT [.one .bool] Try.prog F.dunnagelaw04_DiskTurns [.slice s0.a s0.len s0.cap, .int .i64 n1, .int .i64 n2] w fun r w' => r = true ∧ Ext w w' := by
  refine dunnagelaw04_DiskTurns.vc s0 n1 n2 w _ ?_
  refine CallT.mono (ran.spec hs0) ?_
  rintro _ w1 ⟨e1, d, k, s, rfl, h1, m1⟩
  obtain ⟨q1, q2, q3⟩ := runD_le (l0.take 100) (newD 8)
  have hl0 : (l0.take 100).length ≤ 100 := by rw [List.length_take]; omega
  have q1' : (runD (newD 8) (l0.take 100)).kept.length = 8 := by rw [q1]; rfl
  have q2' : (runD (newD 8) (l0.take 100)).waits.length ≤ 100 := by have : (newD 8).waits.length = 0 := rfl; omega
  have q3' : (runD (newD 8) (l0.take 100)).flips ≤ 100 := by have : (newD 8).flips = 0 := rfl; omega
  generalize runD (newD 8) (l0.take 100) = D at h1 q1' q2' q3'
  refine ⟨fun _ w' => Ext w1 w', CallT.mono (dunnagelaw04_awake.spec w1) ?_, ?_⟩
  · rintro _ w2 ⟨rfl, e2⟩
    exact cnd_neg rfl (cnd_neg rfl e2)
  rintro _ _ w2 e2
  have h2 := h1.ext e2
  have x2 : Ext w w2 := e1.trans e2 fun _ _ h => h
  refine CallT.mono (disk_Start.spec h2) ?_
  rintro _ w3 ⟨_, s3, h3⟩
  refine CallT.mono (disk_Arm.spec h3.at_ (n := 0) (by omega)) ?_
  rintro _ w4 ⟨_, h4⟩
  have b1 := (startD_le D).ws
  have b2 := (armD_le (startD D) 0).ws
  refine CallT.mono (disk_Flush.spec h4.at_ (by omega)) ?_
  rintro _ w5 ⟨_, s5, h5⟩
  obtain ⟨K, fl, hK, hfl, hset⟩ := settle D
  rw [hset] at h5
  rw [q1'] at hK
  have g5 := (h3.tr h4).tr h5
  have x5 : Ext w w5 := g5.ext_of x2 m1
  have n5 : ∀ b, fp d k s5 b → w.heap.size ≤ b := fun b hb => by
    rcases g5.fp' hb with h | h
    · exact m1 b h
    · exact Nat.le_trans x2.size h
  have a5 := g5.at_
  dsimp only at a5
  refine CallT.mono (disk_Fork.spec a5 (by simp)) ?_
  rintro _ w6 ⟨e6, d2, k2, s2, rfl, f6, n6⟩
  refine cnd_neg rfl ?_
  have a6 := a5.ext e6
  have x6 : Ext w w6 := x5.trans e6 fun _ _ h => h
  refine CallT.mono (disk_Flip.spec a6 (by simp only; omega) n1 n2) ?_
  rintro _ w7 ⟨rfl, h7⟩
  have x7 : Ext w w7 := h7.ext_of x6 n5
  have f7 := f6.upd h7.u fun b hb hf => by have := n6 b hb; have := a5.lt hf; omega
  obtain ⟨may, hmay⟩ : ∃ may : Bool, may = decide (0 ≤ n1 ∧ n1 < 8 ∧ 0 ≤ n2 ∧ n2 < 4096) := ⟨_, rfl⟩
  have hmt : may = true ↔ (0 ≤ n1 ∧ n1 < 8 ∧ 0 ≤ n2 ∧ n2 < 4096) := by rw [hmay]; simp
  have hans : (flipD { kept := K, waits := [], down := false, armed := 0, flips := fl } n1 n2).2 = if may = true then 0 else 1 := by
    rw [flipD]
    by_cases hm : may = true
    · have := hmt.1 hm
      rw [if_neg (by simp only; omega), if_pos hm]
    · rw [if_pos (by have : ¬ _ := fun h => hm (hmt.2 h); simp only; omega), if_neg hm]
  obtain ⟨K6, fl6, hD6, hl6, hf6, hk6⟩ : ∃ K6 fl6, (flipD { kept := K, waits := [], down := false, armed := 0, flips := fl } n1 n2).1 = { kept := K6, waits := [], down := false, armed := 0, flips := fl6 } ∧ K6.length = 8 ∧ fl6 ≤ 101 ∧
      ∀ (i : Nat) x, K[i]? = some x → K6[i]? = some (turnS (may && decide ((i : Int) = n1)) x n2.toNat) := by
    rw [flipD]
    by_cases hm : may = true
    · have := hmt.1 hm
      rw [if_neg (by simp only; omega)]
      refine ⟨_, _, rfl, by simp only [List.length_set]; exact hK, by simp only; omega, fun i x hx => ?_⟩
      have hi := (List.getElem?_eq_some_iff.1 hx).1
      by_cases hi1 : (i : Int) = n1
      · have hi2 : n1.toNat = i := by omega
        rw [hm, hi2]
        simp only [hi1, decide_true, Bool.and_self]
        rw [turnS, if_pos rfl, List.getElem?_set_self hi, List.getD_eq_getElem?_getD, hx]; rfl
      · rw [turnS, if_neg (by simp [hi1])]
        simp only
        rw [List.getElem?_set_ne (by omega), hx]
    · rw [if_pos (by have : ¬ _ := fun h => hm (hmt.2 h); simp only; omega)]
      refine ⟨K, fl, rfl, hK, by omega, fun i x hx => ?_⟩
      rw [turnS, if_neg (by simp [hm]), hx]
  have h7o := h7
  rw [hD6] at h7
  have a7 := h7.at_
  refine ⟨fun x w' => w7 = w' ∧ x = may, ?_, ?_⟩
  · refine cnd_dec (fun c1 => cnd_dec (fun c2 => cnd_dec (fun c3 => ⟨rfl, ?_⟩) (fun c3 => ⟨rfl, ?_⟩)) (fun c2 => ⟨rfl, ?_⟩)) (fun c1 => ⟨rfl, ?_⟩)
    · rw [hmay, decide_eq_decide]; omega
    · rw [hmay, eq_comm, decide_eq_false_iff_not]; omega
    · rw [hmay, eq_comm, decide_eq_false_iff_not]; omega
    · rw [hmay, eq_comm, decide_eq_false_iff_not]; omega
  rintro may _ _ ⟨rfl, rfl⟩
  refine ⟨fun _ w' => w7 = w', ?_, ?_⟩
  · rw [hans]
    cases may
    · exact cnd_neg rfl (cnd_pos rfl (cnd_neg rfl rfl))
    · exact cnd_neg rfl (cnd_neg rfl rfl)
  rintro _ _ _ rfl
  refine ⟨fun m x w' => ∃ i : Nat, x = i ∧ i ≤ 8 ∧ m = 8 - i ∧ Ext w7 w', ⟨_, 0, rfl, by omega, rfl, Upd.refl _ _⟩, ?_⟩
  rintro m _ _ w8 ⟨i, rfl, hi, rfl, e8⟩
  refine cnd_dec (fun hlt => ?_) (fun hge => ?_)
  · have hw : IntKind.i64.wrap ((i : Int) + 1) = ((i + 1 : Nat) : Int) := by rw [i64_id] <;> omega
    have hx : K[i]? = some K[i] := List.getElem?_eq_getElem (by omega)
    generalize K[i] = x at hx
    have hy := hk6 i x hx
    have r1 := read_plain (D := { kept := K, waits := [], down := false, armed := 0, flips := fl }) rfl rfl hx
    have r2 := read_plain (D := { kept := K6, waits := [], down := false, armed := 0, flips := fl6 }) rfl rfl hy
    refine CallT.mono (disk_Read.spec (f7.ext e8) (by simp) i) ?_
    rintro ⟨oa, _⟩ w9 ⟨ga, _, e9⟩
    refine CallT.mono (disk_Read.spec ((a7.ext e8).ext e9) (by simp) i) ?_
    rintro ⟨ob, _⟩ w10 ⟨gb, _, e10⟩
    rw [r1] at ga
    rw [r2] at gb
    dsimp only at ga gb ⊢
    have la := ga.lenB
    have lb := gb.lenB
    rw [x.2] at la
    rw [(turnS _ x n2.toNat).2] at lb
    have ra := (ga.ext e10).rd
    have rb := gb.rd
    generalize hp : (may && decide ((i : Int) = n1)) = p at rb
    have e710 : Ext w7 w10 := (e8.trans e9 fun _ _ h => h).trans e10 fun _ _ h => h
    refine cnd_neg (by rw [la, lb]; simp) ?_
    refine ⟨fun m' x' w' => ∃ j : Nat, x' = (((cntB p n2.toNat j : Nat) : Int), (j : Int)) ∧ j ≤ 512 ∧ m' = 512 - j ∧ Ext w10 w', ⟨_, 0, by rw [cntB, if_neg (by omega)]; rfl, by omega, rfl, Upd.refl _ _⟩, ?_⟩
    rintro m' _ _ w11 ⟨j, rfl, hj, rfl, e11⟩
    dsimp only
    have e12 : Ext w10 w11.drew := e11.trans (ext_drew _) fun _ _ h => h
    refine cnd_dec (fun hlt2 => ?_) (fun hge2 => ?_)
    · have hj5 : j < 512 := by omega
      have hwj : IntKind.i64.wrap ((j : Int) + 1) = ((j + 1 : Nat) : Int) := by rw [i64_id] <;> omega
      have hxa : x.1[j]? = some x.1[j] := List.getElem?_eq_getElem (by rw [x.2]; exact hj5)
      generalize x.1[j] = a at hxa
      have hyb := turnS_at (p := p) (b := n2.toNat) hxa
      refine ⟨by omega, by omega, SV.getB ra (i := j) (by rw [x.2]; exact hj5) fun A hA => ⟨(a.toNat : Int), ?_, by omega, by omega, SV.getB rb (i := j) (by rw [(turnS p x n2.toNat).2]; exact hj5) fun A' hA' => ⟨((a ^^^ difB p n2.toNat j).toNat : Int), ?_, ?_⟩⟩⟩
      · rw [Int.toNat_natCast]; exact (ra.ext e12).cellB hxa hA
      · rw [Int.toNat_natCast]; exact (rb.ext e12).cellB hyb hA'
      rw [bxor_B, xor_back]
      have hc : cntB p n2.toNat (j + 1) = cntB p n2.toNat j + (if difB p n2.toNat j = 0 then 0 else 1) := by
        have hb0 : bitB n2.toNat ≠ 0 := fun h => by
          have := bitB_nat n2.toNat
          rw [h] at this
          have h2 : 0 < 2 ^ (n2.toNat % 8) := Nat.pow_pos (by decide)
          simp at this; omega
        by_cases hq : p = true ∧ j = n2.toNat / 8
        · have q1 : difB p n2.toNat j = bitB n2.toNat := if_pos hq
          have q2 : cntB p n2.toNat (j + 1) = 1 := if_pos ⟨hq.1, by omega⟩
          have q3 : cntB p n2.toNat j = 0 := if_neg (by omega)
          rw [q1, q2, q3, if_neg hb0]
        · have q1 : difB p n2.toNat j = 0 := if_neg hq
          rw [q1, if_pos rfl]
          unfold cntB
          by_cases hl : p = true ∧ n2.toNat / 8 < j
          · rw [if_pos hl, if_pos ⟨hl.1, by omega⟩]
          · rw [if_neg hl, if_neg fun h => if h3 : n2.toNat / 8 < j then hl ⟨h.1, h3⟩ else hq ⟨h.1, by omega⟩]
      have next : ∀ w' : World, w11.drew = w' → ∃ m, m < 512 - j ∧ ∃ j' : Nat, ((((cntB p n2.toNat j + (if difB p n2.toNat j = 0 then 0 else 1) : Nat) : Int), IntKind.i64.wrap ((j : Int) + 1)) : Int × Int) = (((cntB p n2.toNat j' : Nat) : Int), (j' : Int)) ∧ j' ≤ 512 ∧ m = 512 - j' ∧ Ext w10 w' := by
        rintro _ rfl
        exact ⟨512 - (j + 1), by omega, j + 1, by rw [hwj, hc], by omega, rfl, e12⟩
      have hc1 : cntB p n2.toNat j ≤ 1 := by unfold cntB; split <;> omega
      by_cases hz : difB p n2.toNat j = 0
      · rw [hz]
        rw [if_pos hz, Nat.add_zero] at next
        refine ⟨fun m2 x2 w' => x2 = (((cntB p n2.toNat j : Nat) : Int), 0) ∧ w11.drew = w', ⟨0, rfl, rfl⟩, ?_⟩
        rintro m2 _ _ _ ⟨rfl, rfl⟩
        exact cnd_neg rfl (next _ rfl)
      · rw [if_neg hz] at next
        have hb : difB p n2.toNat j = bitB n2.toNat := by
          unfold difB at hz ⊢
          split
          · rfl
          · rename_i h; rw [if_neg h] at hz; exact absurd rfl hz
        refine ⟨fun m2 x2 w' => (m2 = 1 ∧ x2 = (((cntB p n2.toNat j : Nat) : Int), ((difB p n2.toNat j).toNat : Int)) ∨ m2 = 0 ∧ x2 = (((cntB p n2.toNat j + 1 : Nat) : Int), 0)) ∧ w11.drew = w', ⟨1, .inl ⟨rfl, rfl⟩, rfl⟩, ?_⟩
        rintro m2 _ _ _ ⟨⟨rfl, rfl⟩ | ⟨rfl, rfl⟩, rfl⟩
        · have hpos : (0 : Nat) < 2 ^ (n2.toNat % 8) := Nat.pow_pos (by decide)
          refine cnd_pos (bne_iff_ne.2 (by rw [hb, bitB_nat]; omega)) ⟨0, by omega, .inr ⟨rfl, ?_⟩, rfl⟩
          have hl := bit_less ⟨n2.toNat % 8, by omega⟩
          dsimp only at hl ⊢
          rw [hb, bitB_nat, hl, i64_id (by omega) (by omega)]
          rfl
        · exact cnd_neg rfl (next _ rfl)
    · have hj5 : j = 512 := by omega
      subst hj5
      have nx : ∃ m, m < 8 - i ∧ ∃ i' : Nat, IntKind.i64.wrap ((i : Int) + 1) = i' ∧ i' ≤ 8 ∧ m = 8 - i' ∧ Ext w7 w11.drew :=
        ⟨8 - (i + 1), by omega, i + 1, hw, by omega, rfl, e710.trans e12 fun _ _ h => h⟩
      by_cases hm : may = true
      · obtain ⟨m0, m1', m2, m3⟩ := hmt.1 hm
        by_cases hin : (i : Int) = n1
        · have hpt : p = true := by rw [← hp, hm]; simp [hin]
          have hcn : cntB p n2.toNat 512 = 1 := by rw [cntB, if_pos ⟨hpt, by omega⟩]
          rw [hcn]
          refine cnd_pos hm (cnd_pos (by simp [hin]) (cnd_neg rfl ?_))
          have hq : IntKind.i64.wrap (n2.tdiv 8) = ((n2.toNat / 8 : Nat) : Int) := by
            rw [Int.tdiv_eq_ediv_of_nonneg (by omega), i64_id (by omega) (by omega)]; omega
          have hmm : IntKind.u64.wrap (n2.tmod 8) = ((n2.toNat % 8 : Nat) : Int) := by
            rw [Int.tmod_eq_emod_of_nonneg (by omega), u64_id (by omega) (by omega)]; omega
          rw [hq, hmm]
          have hj5 : n2.toNat / 8 < 512 := by omega
          have hxa : x.1[n2.toNat / 8]? = some x.1[n2.toNat / 8] := List.getElem?_eq_getElem (by rw [x.2]; exact hj5)
          generalize x.1[n2.toNat / 8] = a at hxa
          have hyb := turnS_at (p := p) (b := n2.toNat) hxa
          refine ⟨by omega, by omega, SV.getB ra (i := n2.toNat / 8) (by rw [x.2]; exact hj5) fun A hA => ⟨(a.toNat : Int), ?_, by omega, by omega, SV.getB rb (i := n2.toNat / 8) (by rw [(turnS p x n2.toNat).2]; exact hj5) fun A' hA' => ⟨((a ^^^ difB p n2.toNat (n2.toNat / 8)).toNat : Int), ?_, by omega, ?_⟩⟩⟩
          · rw [Int.toNat_natCast]; exact (ra.ext e12).cellB hxa hA
          · rw [Int.toNat_natCast]; exact (rb.ext e12).cellB hyb hA'
          rw [bxor_B, xor_back, difB, if_pos ⟨hpt, rfl⟩]
          have hsh : shl .u8 1 ((n2.toNat % 8 : Nat) : Int) = ((bitB n2.toNat).toNat : Int) := by
            exact shl_bit (by omega)
          rw [hsh]
          exact cnd_neg (by simp) (cnd_neg (by rw [hm]; rfl) (cnd_neg (by simp [hin]) nx))
        · have hpf : p = false := by rw [← hp]; simp [hin]
          have hcn : cntB p n2.toNat 512 = 0 := by rw [cntB, if_neg (by rw [hpf]; simp)]
          rw [hcn]
          exact cnd_pos hm (cnd_neg (by simp [hin]) (cnd_neg (by rw [hm]; rfl) (cnd_pos (by simp [hin]) (cnd_neg rfl nx))))
      · have hmf : may = false := by simpa using hm
        have hpf : p = false := by rw [← hp, hmf]; rfl
        have hcn : cntB p n2.toNat 512 = 0 := by rw [cntB, if_neg (by rw [hpf]; simp)]
        rw [hcn]
        exact cnd_neg hmf (cnd_pos (by rw [hmf]; rfl) (cnd_neg rfl nx))
  · have a8 := a7.ext e8
    have f8 := f7.ext e8
    refine ⟨fun _ w' => ∃ D', DkTo w8 w' d k s5 s5 D' ∧ D'.kept = K ∧ D'.down = false ∧ D'.waits = [], ?_, ?_⟩
    · refine cnd_intro (fun hm => ?_) (fun hm => ?_)
      · obtain ⟨m0, m1', m2, m3⟩ := hmt.1 hm
        refine CallT.mono (disk_Flip.spec a8 (by simp only; omega) n1 n2) ?_
        rintro _ w9 ⟨rfl, h9⟩
        have hff : ¬ (¬ (0 ≤ n1 ∧ n1 < ((K6.length : Nat) : Int)) ∨ n2 < 0 ∨ 4096 ≤ n2) := by omega
        rw [flipD, if_neg hff] at h9 ⊢
        refine cnd_neg rfl ⟨_, h9, ?_, rfl, rfl⟩
        simp only
        obtain ⟨i0, rfl⟩ : ∃ i0 : Nat, n1 = i0 := ⟨n1.toNat, by omega⟩
        rw [Int.toNat_natCast]
        apply List.ext_getElem?
        intro i
        by_cases hik : i < K.length
        · have hx := List.getElem?_eq_getElem hik
          have hy := hk6 i _ hx
          by_cases hii : i = i0
          · subst hii
            rw [List.getElem?_set_self (by omega), List.getD_eq_getElem?_getD, hy, hm]
            simp only [decide_true, Bool.and_self, Option.getD_some]
            rw [turnS, if_pos rfl, flipS_twice _ _ (by omega), hx]
          · rw [List.getElem?_set_ne (fun h => hii h.symm), hy, hx, turnS, if_neg (by simp; omega)]
        · rw [List.getElem?_eq_none (by rw [List.length_set]; omega), List.getElem?_eq_none (by omega)]
      · refine ⟨_, a8.to, ?_, rfl, rfl⟩
        apply List.ext_getElem?
        intro i
        simp only
        by_cases hik : i < K.length
        · have hx := List.getElem?_eq_getElem hik
          rw [hk6 i _ hx, hm, hx, turnS, if_neg (by simp)]
        · rw [List.getElem?_eq_none (by omega), List.getElem?_eq_none (by omega)]
    rintro _ _ w9 ⟨D', h9, hk9, hd9, hw9⟩
    have f9 := f8.upd h9.u fun b hb hf => by
      have h := n6 b hb
      have h2 := a5.lt hf
      omega
    have x9 : Ext w w9 := h9.ext_of (x7.trans e8 fun _ _ h => h) n5
    refine ⟨fun m x w' => ∃ i : Nat, x = i ∧ i ≤ 8 ∧ m = 8 - i ∧ Ext w9 w', ⟨_, 0, rfl, by omega, rfl, Upd.refl _ _⟩, ?_⟩
    rintro m _ _ w10 ⟨j, rfl, hj, rfl, e10⟩
    refine cnd_dec (fun hlt => ?_) (fun hge => ⟨rfl, x9.trans e10 fun _ _ h => h⟩)
    have hw : IntKind.i64.wrap ((j : Int) + 1) = ((j + 1 : Nat) : Int) := by rw [i64_id] <;> omega
    have hx : K[j]? = some K[j] := List.getElem?_eq_getElem (by omega)
    generalize K[j] = x at hx
    have r1 := read_plain (D := { kept := K, waits := [], down := false, armed := 0, flips := fl }) rfl rfl hx
    have r2 := read_plain (D := D') hd9 hw9 (by rw [hk9]; exact hx)
    refine CallT.mono (disk_Read.spec (f9.ext e10) (by simp) j) ?_
    rintro ⟨oa, _⟩ w11 ⟨ga, _, e11⟩
    refine CallT.mono (disk_Read.spec ((h9.at_.ext e10).ext e11) (by rw [hw9]; simp) j) ?_
    rintro ⟨ob, _⟩ w12 ⟨gb, _, e12⟩
    rw [r1] at ga
    rw [r2] at gb
    dsimp only at ga gb ⊢
    refine CallT.mono (dunnagehelp_Bytes.spec (ga.ext e12).rd gb.rd) ?_
    rintro _ _ ⟨rfl, rfl⟩
    exact cnd_neg (by simp) ⟨8 - (j + 1), by omega, j + 1, hw, by omega, rfl, (e10.trans e11 fun _ _ h => h).trans e12 fun _ _ h => h⟩
end Go.Proofs
