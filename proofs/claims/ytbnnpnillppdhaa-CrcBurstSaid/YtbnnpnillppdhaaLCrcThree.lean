/- The walks of dunnagelaw02.CrcThree, CrcBurst: each answers true, and turns nothing that was there. Conditions: what came in is of the sizes that the form allows. -/
import Derived.Test.YtbnnpnillppdhaaCrcTurn
namespace Go.Proofs
open Go Go.Vc Go.Crc
theorem new_I64 (w : World) (ks : List Int) : RdI (w.alloc (.cells (I64 ks).toArray T.int)) ⟨some ⟨w.heap.size, 0, none⟩, ks.length, ks.length⟩ ks :=
  (Own.new w T.int 1 ks.length (I64 ks) (by simp [I64])).rd
theorem turn_right {K : Bool → World → Prop} {w : World} {s : SV} {x : List UInt8} {ks : List Int} (hx : RdB w s x) (hl : x.length ≤ 1048576) (hk : ks.length < 2 ^ 62) (hr : ∀ k ∈ ks, -9223372036854775808 ≤ k ∧ k ≤ 9223372036854775807)
    (hK : ∀ w3, Ext w w3 → K (rightB (turns x ks)) w3) :
    CallT [.one .slice] Try.prog F.dunnageref02_Turn [.slice s.a s.len s.cap, .slice (some ⟨w.heap.size, 0, none⟩) ks.length ks.length] (w.alloc (.cells (I64 ks).toArray T.int)) fun o w2 =>
      CallT [.one .bool] Try.prog F.dunnagelaw02_right [.slice o.a o.len o.cap] w2 K := by
  have c1 := dunnageref02_Turn.spec (hx.ext (ext_alloc w (.cells (I64 ks).toArray T.int))) (new_I64 w ks) (by omega) hk hr
  refine CallT.mono c1 ?_
  rintro o w2 ⟨ho, e2⟩
  have c2 := dunnagelaw02_right.spec ho.rd ho.cap_le (by rw [turns_len]; exact hl)
  refine CallT.mono c2 ?_
  rintro _ w3 ⟨rfl, e3⟩
  exact hK w3 (((ext_alloc w _).tr e2).tr e3)
theorem u64_nat (x : Int) : ∃ n : Nat, IntKind.u64.wrap x = n ∧ n < 2 ^ 64 := ⟨(x % 18446744073709551616).toNat, by rw [u64_mod]; omega, by omega⟩
theorem dunnagelaw02_CrcThree.spec {s : SV} {l : List UInt8} {i j k : Int} {w : World} (hs : RdB w s l) :
    CallT [.one .bool] Try.prog F.dunnagelaw02_CrcThree [.slice s.a s.len s.cap, .int .i64 i, .int .i64 j, .int .i64 k] w fun r w' => r = true ∧ Ext w w' := by
  refine dunnagelaw02_CrcThree.vc s i j k w _ ?_
  have hsl := hs.lenB
  refine ⟨fun _ w' => Ext w w' ∧ l.length ≤ 508, ⟨fun b w' => Ext w w' ∧ (b = false → l.length ≤ 508), ?_, ?_⟩, ?_⟩
  · refine CallT.mono (dunnagelaw02_awake.spec w) ?_
    rintro _ w1 ⟨rfl, e1⟩
    exact cnd_false ⟨e1, fun h => by have := of_decide_eq_false h; omega⟩
  · rintro b _ w1 ⟨e1, hb⟩
    refine cnd_intro (fun _ => ?_) (fun hf => ⟨e1, hb hf⟩)
    refine CallT.mono (dunnagelaw02_awake.spec w1) ?_
    rintro _ w2 ⟨rfl, e2⟩
    exact ⟨rfl, e1.tr e2⟩
  rintro _ _ w1 ⟨e1, hl⟩
  have c1 := dunnagelaw02_behind.spec (hs.ext e1) (by omega)
  refine CallT.mono c1 ?_
  rintro x w2 ⟨hx, e2⟩
  have e2 := e1.tr e2
  have hB : (behindB l).length = l.length + 4 := by rw [behindB, List.length_append, leB_len]
  have hxl := hx.lenB
  have hright := right_behind l
  generalize behindB l = y at *
  have hn0 : IntKind.u64.wrap (IntKind.i64.wrap (8 * (x.len : Int))) = ((8 * y.length : Nat) : Int) := by rw [i64_id (by omega) (by omega), u64_id] <;> omega
  rw [hn0]
  obtain ⟨i0, hi0, _⟩ := u64_nat i
  obtain ⟨j0, hj0, _⟩ := u64_nat j
  obtain ⟨k0, hk0, _⟩ := u64_nat k
  rw [hi0, hj0, hk0]
  have hpos : 0 < 8 * y.length := by omega
  have hm : ∀ q : Nat, IntKind.i64.wrap ((q : Int).tmod ((8 * y.length : Nat) : Int)) = ((q % (8 * y.length) : Nat) : Int) ∧ q % (8 * y.length) < 8 * y.length := fun q => by
    have h2 := Nat.mod_lt q hpos
    refine ⟨?_, h2⟩
    rw [Int.tmod_eq_emod_of_nonneg (by omega), ← Int.natCast_emod, i64_id] <;> omega
  obtain ⟨hmi, hbi⟩ := hm i0
  obtain ⟨hmj, hbj⟩ := hm j0
  obtain ⟨hmk, hbk⟩ := hm k0
  dsimp only
  rw [hmi, hmj, hmk]
  generalize i0 % (8 * y.length) = a at *
  generalize j0 % (8 * y.length) = b at *
  generalize k0 % (8 * y.length) = c at *
  have hx4 : 4 ≤ y.length := by omega
  refine ⟨by omega, by omega, by omega, fun _ w' => Ext w2 w', ?_, ?_⟩
  · have c2 := dunnagelaw02_right.spec (hx.rd.drew) hx.cap_le (by omega)
    refine CallT.mono c2 ?_
    rintro _ w3 ⟨rfl, e3⟩
    have e3 : Ext w2 w3 := (ext_drew w2).tr e3
    refine cnd_neg (by rw [hright]; rfl) ?_
    refine turn_right (ks := [(a : Int)]) (hx.rd.ext e3) (by omega) (by simp) (by simp; omega) ?_
    intro w4 e4
    exact cnd_neg (right_turned hx4 hright _ (ers1 hbi)) (e3.tr e4)
  rintro _ _ w3 e3
  refine ⟨fun _ w' => Ext w2 w', cnd_bne (fun hab => ?_) (fun _ => e3), ?_⟩
  · refine turn_right (ks := [(a : Int), (b : Int)]) (hx.rd.ext e3) (by omega) (by simp) (by simp; omega) ?_
    intro w4 e4
    exact cnd_neg (right_turned hx4 hright _ (ers2 (by omega) hbi hbj (by omega))) (e3.tr e4)
  rintro _ _ w4 e4
  refine cnd_beq (fun _ => ⟨rfl, e2.tr e4⟩) (fun _ => cnd_beq (fun _ => ⟨rfl, e2.tr e4⟩) (fun _ => cnd_beq (fun _ => ⟨rfl, e2.tr e4⟩) (fun _ => ?_)))
  refine turn_right (ks := [(a : Int), (b : Int), (c : Int)]) (hx.rd.ext e4) (by omega) (by simp) (by simp; omega) ?_
  intro w5 e5
  exact ⟨by rw [right_turned hx4 hright _ (ers3 hbi hbj hbk)]; rfl, (e2.tr e4).tr e5⟩
end Go.Proofs
