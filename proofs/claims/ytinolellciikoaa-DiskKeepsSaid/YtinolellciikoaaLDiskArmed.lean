/- dunnagelaw04.DiskArmed: an armed disk is hit by the n-th write or flush and is down from then on. Conditions: the flags are readable. -/
import Derived.Test.YtinolellciikoaaCond0
import Derived.Test.YtinolellciikoaaDiskFull
namespace Go.Proofs
open Go Go.Vc
theorem bools_rel {w : World} {bd : TypeId → Nat → Prop} {bs : Nat → Prop} {e : TypeId} {a : Option Addr} {len cap : Nat} (h : DS.rel w bd bs (.slice e 1 .bool) [.slice a len cap]) :
    ∃ l : List Bool, RdBo w ⟨a, len, cap⟩ l ∧ len ≤ cap ∧ (cap = 0 ∨ bd e cap) := by
  have key : ∀ es : List Value, es.length = 1 → DS.rel w bd bs .bool es → ∃ x : Bool, [Value.bool x] = es ∧ True := by
    intro es hl hr
    obtain ⟨n, rfl⟩ := hr
    exact ⟨n, rfl, trivial⟩
  obtain ⟨l, h1, h2, h3, _⟩ := DS.flat (enc := fun b : Bool => [Value.bool b]) (fun _ => True) h (fun _ => rfl) (by decide) key
  exact ⟨l, h1, h2, h3⟩
structure ArmOk (N i : Nat) (D : DK) : Prop where
  len : D.kept.length = 4
  ws : D.waits.length ≤ i
  up : i ≤ N → D.down = false ∧ D.armed = N - i + 1
  dn : N < i → D.down = true
def ansA (N i : Nat) : Int := if i < N then 0 else 40
theorem flushA {N i : Nat} {D : DK} (h : ArmOk N i D) : (flushD D).2 = ansA N i ∧ ArmOk N (i + 1) (flushD D).1 := by
  have hws := h.ws
  by_cases hi : N < i
  · have hd := h.dn hi
    rw [flushD, if_pos hd]
    exact ⟨by rw [ansA, if_neg (by omega)], h.len, by simp only; omega, fun h2 => by omega, fun _ => hd⟩
  · obtain ⟨hd, ha⟩ := h.up (by omega)
    rw [flushD, if_neg (by rw [hd]; simp)]
    by_cases he : i = N
    · have hc : cntD D = ({ D with armed := D.armed - 1, down := true }, 40) := by rw [cntD_pos (by omega), if_pos (by omega)]
      rw [hc, if_pos (by simp)]
      exact ⟨by rw [ansA, if_neg (by omega)], h.len, by simp only; omega, fun h2 => by omega, fun _ => rfl⟩
    · have hc : cntD D = ({ D with armed := D.armed - 1 }, 0) := by rw [cntD_pos (by omega), if_neg (by omega)]
      rw [hc, if_neg (by simp)]
      exact ⟨by rw [ansA, if_pos (by omega)], by simp only [applyW_len]; exact h.len, by simp, fun h2 => ⟨hd, by simp only; omega⟩, fun h2 => by omega⟩
theorem writeA {N i : Nat} {D : DK} {at_ : Int} {b : List UInt8} (h : ArmOk N i D) (h0 : 0 ≤ at_) (h1 : at_ < 4) (hb : b.length = 512) : (writeD D at_ b).2 = ansA N i ∧ ArmOk N (i + 1) (writeD D at_ b).1 := by
  have hws := h.ws
  by_cases hi : N < i
  · have hd := h.dn hi
    rw [writeD, if_pos hd]
    exact ⟨by rw [ansA, if_neg (by omega)], h.len, by simp only; omega, fun h2 => by omega, fun _ => hd⟩
  · obtain ⟨hd, ha⟩ := h.up (by omega)
    rw [writeD_in hd h0 (by rw [h.len]; exact h1) hb, cntD_pos (by simp only; omega)]
    by_cases he : i = N
    · rw [if_pos (by simp only; omega)]
      exact ⟨by rw [ansA, if_neg (by omega)], h.len, by simp only [List.length_append, List.length_singleton]; omega, fun h2 => by omega, fun _ => rfl⟩
    · rw [if_neg (by simp only; omega)]
      exact ⟨by rw [ansA, if_pos (by omega)], h.len, by simp only [List.length_append, List.length_singleton]; omega, fun h2 => ⟨hd, by simp only; omega⟩, fun h2 => by omega⟩
theorem armN (n : Int) : ∃ N : Nat, IntKind.i64.wrap (1 + IntKind.i64.wrap ((IntKind.u64.wrap n).tmod 20)) = N ∧ 1 ≤ N ∧ N ≤ 20 := by
  have h0 : 0 ≤ IntKind.u64.wrap n := by rw [u64_mod]; omega
  refine ⟨1 + (IntKind.u64.wrap n % 20).toNat, ?_, by omega, by omega⟩
  rw [Int.tmod_eq_emod_of_nonneg h0, i64_id (x := IntKind.u64.wrap n % 20) (by omega) (by omega), i64_id (by omega) (by omega)]
  omega
set_option maxRecDepth 100000 in
theorem dunnagelaw04_DiskArmed.spec (n : Int) {s1 : SV} {l : List Bool} (w : World) (hs : RdBo w s1 l) :
    CallT [.one .bool] Try.prog F.dunnagelaw04_DiskArmed [.int .i64 n, .slice s1.a s1.len s1.cap] w fun r w' => r = true ∧ Ext w w' := by
  refine dunnagelaw04_DiskArmed.vc n s1 w _ ?_
  refine CallT.mono (disk_New.spec 4 w) ?_
  rintro r w1 ⟨e1, h | ⟨_, d, k, s, rfl, h1, hf⟩⟩
  · omega
  have hD : newD (Int.toNat 4) = newD 4 := rfl
  rw [hD] at h1
  refine ⟨fun _ w' => Ext w1 w', CallT.mono (dunnagelaw04_awake.spec w1) ?_, ?_⟩
  · rintro _ w2 ⟨rfl, e2⟩
    exact cnd_neg rfl (cnd_neg rfl (cnd_neg rfl e2))
  rintro _ _ w2 e2
  obtain ⟨N, hN, hN1, hN2⟩ := armN n
  rw [hN]
  dsimp only
  refine CallT.mono (disk_Arm.spec (h1.ext e2) (n := N) (by omega)) ?_
  rintro _ w3 ⟨rfl, h3⟩
  have ha : armD (newD 4) N = ({ newD 4 with armed := N }, 0) := by
    rw [armD, if_neg (by simp [newD])]
    have : (max (N : Int) 0).toNat = N := by omega
    rw [this]
  rw [ha] at h3 ⊢
  refine cnd_neg rfl ?_
  have h3' := DkTo.pre e2 h3
  refine ⟨fun m x w' => ∃ (i : Nat) (s' : SV) (D : DK), x = i ∧ 1 ≤ i ∧ i ≤ 31 ∧ m = 31 - i ∧ DkTo w1 w' d k s s' D ∧ ArmOk N i D, ⟨_, 1, s, _, rfl, by omega, by omega, rfl, h3', ⟨by simp [newD], by simp [newD], fun _ => ⟨rfl, by simp only; omega⟩, fun h => by omega⟩⟩, ?_⟩
  rintro m _ _ w4 ⟨i, s4, D, rfl, hi1, hi2, rfl, h4, a4⟩
  have x4 : Ext w w4 := h4.ext_of e1 hf
  have hws := a4.ws
  refine cnd_dec (fun hle => ?_) (fun hgt => ?_)
  · have hw : IntKind.i64.wrap ((i : Int) + 1) = ((i + 1 : Nat) : Int) := by rw [i64_id] <;> omega
    have hw1 : IntKind.i64.wrap ((i : Int) - 1) = ((i - 1 : Nat) : Int) := by rw [i64_id] <;> omega
    refine ⟨fun _ w' => w4 = w', ?_, ?_⟩
    · refine cnd_dec (fun hlt => ?_) (fun _ => rfl)
      rw [hw1]
      have h5 := hs.ext x4
      have hl := h5.len
      have hik : i - 1 < l.length := by omega
      have hy : l[i - 1]? = some l[i - 1] := List.getElem?_eq_getElem hik
      refine ⟨by omega, by omega, h5.get hik fun A hA => ⟨l[i - 1], ?_, rfl⟩⟩
      rw [Int.toNat_natCast]
      exact (h5.at_ hy hA) 0 _ rfl
    rintro fl _ _ rfl
    refine ⟨fun f w' => ∃ s' D', f = ansA N i ∧ DkTo w1 w' d k s s' D' ∧ ArmOk N (i + 1) D', ?_, ?_⟩
    · refine cnd_intro (fun _ => ?_) (fun _ => ?_)
      · refine CallT.mono (disk_Flush.spec h4.at_ (by omega)) ?_
        rintro _ w5 ⟨rfl, s5, h5⟩
        obtain ⟨q1, q2⟩ := flushA a4
        exact ⟨s5, _, q1, h4.tr h5, q2⟩
      · refine CallT.mono (full04.spec _ false w4) ?_
        rintro o w5 ⟨ho, e5⟩
        refine CallT.mono (disk_Write.spec (h4.at_.ext e5) (by omega) (at_ := (i : Int).tmod 4) ho.rd fun c _ hc hs => ?_) ?_
        · have := ho.blk_ge hc; have := h4.at_.wait.own.blk_lt hs; omega
        rintro _ w6 ⟨rfl, s6, h6⟩
        have hat : (i : Int).tmod 4 = (i : Int) % 4 := Int.tmod_eq_emod_of_nonneg (by omega)
        obtain ⟨q1, q2⟩ := writeA a4 (at_ := (i : Int).tmod 4) (b := fullB (IntKind.u8.wrap (i : Int)) false) (by omega) (by omega) (fullB_len _)
        exact ⟨s6, _, q1, h4.tr (DkTo.pre e5 h6), q2⟩
    rintro _ _ w5 ⟨s5, D5, rfl, h5, a5⟩
    by_cases hiN : i < N
    · refine cnd_pos (by simp; omega) (cnd_neg (by rw [ansA, if_pos hiN]; rfl) (cnd_neg (by simp; omega) (CallT.mono (disk_Down.spec h5.at_) ?_)))
      rintro _ _ ⟨rfl, rfl⟩
      have hd := (a5.up (by omega)).1
      exact cnd_neg (by rw [hd]; simp; omega) ⟨31 - (i + 1), by omega, i + 1, s5, D5, hw, by omega, by omega, rfl, h5, a5⟩
    · refine cnd_neg (by simp; omega) (cnd_pos (by simp; omega) (cnd_neg (by rw [ansA, if_neg hiN]; rfl) (CallT.mono (disk_Down.spec h5.at_) ?_)))
      rintro _ _ ⟨rfl, rfl⟩
      have hd := a5.dn (by omega)
      exact cnd_neg (by rw [hd]; simp; omega) ⟨31 - (i + 1), by omega, i + 1, s5, D5, hw, by omega, by omega, rfl, h5, a5⟩
  · have hd := a4.dn (by omega)
    refine CallT.mono (disk_Read.spec h4.at_ (by omega) 0) ?_
    rintro ⟨o, e⟩ w5 ⟨ho, he, e5⟩
    rw [readD, if_pos hd] at he
    dsimp only at he ⊢
    subst he
    have h5 := h4.ext e5
    refine ⟨fun _ w' => ∃ s', DkTo w1 w' d k s s' (startD D), cnd_neg rfl (CallT.mono (disk_Arm.spec h5.at_ (n := 3) (by omega)) ?_), ?_⟩
    · rintro _ w6 ⟨rfl, h6⟩
      rw [armD, if_pos hd] at h6 ⊢
      refine cnd_neg rfl (CallT.mono (disk_Start.spec h6.at_) ?_)
      rintro _ w7 ⟨rfl, s7, h7⟩
      refine cnd_neg rfl (CallT.mono (disk_Down.spec h7.at_) ?_)
      rintro _ _ ⟨rfl, rfl⟩
      exact cnd_neg (by rw [startD, if_pos hd]) ⟨s7, (h5.tr h6).tr h7⟩
    rintro _ _ w6 ⟨s6, h6⟩
    rw [startD, if_pos hd] at h6
    refine CallT.mono (full04.spec 1 false w6) ?_
    rintro o2 w7 ⟨ho2, e7⟩
    refine CallT.mono (disk_Write.spec (h6.at_.ext e7) (by simp) (at_ := 0) ho2.rd fun c _ hc hs => ?_) ?_
    · have := ho2.blk_ge hc; have := h6.at_.wait.own.blk_lt hs; omega
    rintro _ w8 ⟨rfl, s8, h8⟩
    rw [writeD_in rfl (by omega) (by simp only; rw [a4.len]; decide) (fullB_len 1), cntD_zero rfl] at h8 ⊢
    refine cnd_pos rfl (CallT.mono (disk_Flush.spec h8.at_ (by simp)) ?_)
    rintro _ w9 ⟨rfl, s9, h9⟩
    exact ⟨rfl, ((h6.tr (DkTo.pre e7 h8)).tr h9).ext_of e1 hf⟩
end Go.Proofs
