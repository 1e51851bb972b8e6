/- Texts that the claim leans on, one behind the other: each begins with a sentence of its own. Conditions: those that each names. -/
import Derived.Below
import Derived.ChangeOld
import Derived.Deep.Quiet
import Derived.KernelRfl
import Derived.Laws.Cells
import Derived.Laws.Entries
import Derived.Laws.Sem
import Derived.Laws.Strings
import Derived.Laws.World
import Derived.Lib.SlBytesConst
import Derived.OpenShut
import Derived.Orders
import Derived.OrdersHeld
import Derived.ProofKit
import Derived.ShutString
import Derived.SizedLaws
import Derived.StillTail
import Derived.Tactics
import Derived.Test.YtinolellciikoaaProg
import Derived.Test.YtinolellciikoaaRows
import Derived.Test.YtinolellciikoaaPkH3
/- dunnagelaw27.ManifestTells: which manifests may be, what they are as sectors, what any bytes are, which of two slots counts, and what comes next. Conditions: what came in is of the sizes that the form allows. -/
namespace Go.Proofs
open Go Go.Vc Go.Crc
/-! ### a manifest that comes in -/
theorem man_rel {w : World} {bd : TypeId → Nat → Prop} {bs : Nat → Prop} {a : Array Value} (h : DS.rel w bd bs (.struct (.cons 0 1 (.int .u64) (.cons 1 1 (.int .u64) (.cons 2 1 (.int .i64) (.cons 3 1 (.int .i64) (.cons 4 1 (.int .u64) (.cons 5 1 (.int .u64) (.cons 6 1 (.int .u64) (.cons 7 1 (.int .u64) (.cons 8 1 (.int .u64) .nil)))))))))) a.toList) (g : a.size = 9) :
    ∃ m : Man, a = (m9v m.t).toArray ∧ U9 m := by
  obtain ⟨l⟩ := a
  match l, g with
  | [v0, v1, v2, v3, v4, v5, v6, v7, v8], _ =>
    obtain ⟨⟨n0, h0, w0⟩, ⟨n1, h1, w1⟩, ⟨n2, h2, w2⟩, ⟨n3, h3, w3⟩, ⟨n4, h4, w4⟩, ⟨n5, h5, w5⟩, ⟨n6, h6, w6⟩, ⟨n7, h7, w7⟩, ⟨n8, h8, w8⟩, _⟩ := h
    have u : ∀ {n : Int}, (Lit.int .u64 n).wf = true → 0 ≤ n ∧ n ≤ 18446744073709551615 := fun {n} hw => by
      have : IntKind.u64.min ≤ n ∧ n ≤ IntKind.u64.max := by simpa [Lit.wf] using hw
      exact this
    have i : ∀ {n : Int}, (Lit.int .i64 n).wf = true → -9223372036854775808 ≤ n ∧ n ≤ 9223372036854775807 := fun {n} hw => by
      have : IntKind.i64.min ≤ n ∧ n ≤ IntKind.i64.max := by simpa [Lit.wf] using hw
      exact this
    have u0 := u w0
    have u1 := u w1
    have u2 := i w2
    have u3 := i w3
    have u4 := u w4
    have u5 := u w5
    have u6 := u w6
    have u7 := u w7
    have u8 := u w8
    simp only [List.drop_zero, List.drop_succ_cons, List.take_succ_cons, List.take_zero, List.cons.injEq, and_true] at h0 h1 h2 h3 h4 h5 h6 h7 h8
    subst h0 h1 h2 h3 h4 h5 h6 h7 h8
    obtain ⟨x0, rfl⟩ : ∃ x : Nat, n0 = x := ⟨n0.toNat, by omega⟩
    obtain ⟨x1, rfl⟩ : ∃ x : Nat, n1 = x := ⟨n1.toNat, by omega⟩
    obtain ⟨x4, rfl⟩ : ∃ x : Nat, n4 = x := ⟨n4.toNat, by omega⟩
    obtain ⟨x5, rfl⟩ : ∃ x : Nat, n5 = x := ⟨n5.toNat, by omega⟩
    obtain ⟨x6, rfl⟩ : ∃ x : Nat, n6 = x := ⟨n6.toNat, by omega⟩
    obtain ⟨x7, rfl⟩ : ∃ x : Nat, n7 = x := ⟨n7.toNat, by omega⟩
    obtain ⟨x8, rfl⟩ : ∃ x : Nat, n8 = x := ⟨n8.toNat, by omega⟩
    exact ⟨⟨x0, x1, n2, n3, x4, x5, x6, x7, x8⟩, rfl, ⟨by show x0 < _; omega, by show x1 < _; omega, u2, u3, by show x4 < _; omega, by show x5 < _; omega, by show x6 < _; omega, by show x7 < _; omega, by show x8 < _; omega⟩⟩
end Go.Proofs
/- dunnagelaw29.ran: a device behind items. Conditions: those of each contract. -/
namespace Go.Proofs
open Go Go.Vc Go.Crc
structure ItV where
  at_ : Int
  bit : Int
  turn : Bool
  kind : UInt8
  s : SV
  data : List UInt8
@[reducible] def encIt (x : ItV) : List Value := [.int .i64 x.at_, .int .i64 x.bit, .bool x.turn, .int .u8 x.kind.toNat, .slice x.s.a x.s.len x.s.cap]
/-- A slice that reads as these items. -/
structure RdIts (w : World) (s : SV) (l : List ItV) : Prop where
  rd : RdS encIt 5 w s l
  ok : ∀ x ∈ l, RdB w x.s x.data
theorem RdIts.ext {w w' : World} {s : SV} {l : List ItV} (h : RdIts w s l) (e : Ext w w') : RdIts w' s l := ⟨h.rd.ext e, fun x hx => (h.ok x hx).ext e⟩
def m256 (x : Int) : Nat := ((IntKind.u64.wrap x) % 256).toNat
def m4096 (x : Int) : Nat := ((IntKind.u64.wrap x) % 4096).toNat
theorem m256_eq (x : Int) : IntKind.i64.wrap ((IntKind.u64.wrap x).tmod 256) = (m256 x : Int) ∧ m256 x < 256 := by
  have h2 : 0 ≤ IntKind.u64.wrap x := by rw [u64_mod]; omega
  rw [Int.tmod_eq_emod_of_nonneg h2, i64_id (by omega) (by omega), m256]
  omega
theorem m4096_eq (x : Int) : IntKind.i64.wrap ((IntKind.u64.wrap x).tmod 4096) = (m4096 x : Int) ∧ m4096 x < 4096 := by
  have h2 : 0 ≤ IntKind.u64.wrap x := by rw [u64_mod]; omega
  rw [Int.tmod_eq_emod_of_nonneg h2, i64_id (by omega) (by omega), m4096]
  omega
def putI (D : DK) (i : Nat) (x : ItV) : DK := if (sealR x.kind i x.data).2 = 0 then (writeD D (m256 x.at_ : Int) (sealR x.kind i x.data).1).1 else D
def stepI (D : DK) (i : Nat) (x : ItV) : DK :=
  if x.turn = true then (flipD D (m256 x.at_ : Int) (m4096 x.bit : Int)).1
  else if x.bit.tmod 3 = 0 then (flushD (putI D i x)).1 else putI D i x
/-- What is known of such a device. -/
structure OkD (D : DK) (i : Nat) : Prop where
  n : D.kept.length = 256
  w : D.waits.length ≤ i
  f : D.flips ≤ i
  down : D.down = false
  arm : D.armed = 0
theorem OkD.more {D : DK} {i j : Nat} (h : OkD D i) (hij : i ≤ j) : OkD D j := ⟨h.n, by have := h.w; omega, by have := h.f; omega, h.down, h.arm⟩
theorem OkD.write {D : DK} {i : Nat} (h : OkD D i) (a : Nat) (b : List UInt8) (ha : a < 256) : (writeD D (a : Int) b).1 = (if b.length = 512 then { D with waits := D.waits ++ [(a, secOf b)] } else D) ∧ OkD (writeD D (a : Int) b).1 (i + 1) := by
  have e : (writeD D (a : Int) b).1 = (if b.length = 512 then { D with waits := D.waits ++ [(a, secOf b)] } else D) := by
    rw [writeD, if_neg (by rw [h.down]; simp)]
    by_cases hb : b.length = 512
    · rw [if_neg (by rw [h.n]; omega), if_pos hb, cntD, hitD]
      simp [h.arm]
    · rw [if_pos (.inr hb), if_neg hb]
  refine ⟨e, ?_⟩
  rw [e]
  split
  · exact ⟨h.n, by have := h.w; simp; omega, by have := h.f; simp only; omega, h.down, h.arm⟩
  · exact h.more (by omega)
theorem OkD.flush {D : DK} {i : Nat} (h : OkD D i) : (flushD D).1 = { D with kept := applyW D.kept D.waits, waits := [] } ∧ OkD (flushD D).1 i := by
  have e : (flushD D).1 = { D with kept := applyW D.kept D.waits, waits := [] } := by
    rw [flushD, if_neg (by rw [h.down]; simp)]
    have : cntD D = (D, 0) := by rw [cntD, hitD]; simp [h.arm]
    rw [this]; simp
  refine ⟨e, ?_⟩
  rw [e]
  exact ⟨by rw [← h.n]; exact applyW_len _ _, by simp, h.f, h.down, h.arm⟩
theorem OkD.flip {D : DK} {i : Nat} (h : OkD D i) (a b : Nat) (ha : a < 256) (hb : b < 4096) : flipD D (a : Int) (b : Int) = ({ D with kept := D.kept.set a (flipS (D.kept.getD a zeroSec) b), flips := D.flips + 1 }, 0) ∧ OkD (flipD D (a : Int) (b : Int)).1 (i + 1) := by
  have e : flipD D (a : Int) (b : Int) = ({ D with kept := D.kept.set a (flipS (D.kept.getD a zeroSec) b), flips := D.flips + 1 }, 0) := by
    rw [flipD, if_neg (by rw [h.n]; omega)]
    rfl
  refine ⟨e, ?_⟩
  rw [e]
  exact ⟨by simp only [List.length_set]; exact h.n, by have := h.w; simp only; omega, by have := h.f; simp only; omega, h.down, h.arm⟩
theorem OkD.put {D : DK} {i : Nat} (h : OkD D i) (x : ItV) : OkD (putI D i x) (i + 1) := by
  unfold putI
  split
  · exact (h.write _ _ (m256_eq x.at_).2).2
  · exact h.more (by omega)
theorem OkD.step {D : DK} {i : Nat} (h : OkD D i) (x : ItV) : OkD (stepI D i x) (i + 1) := by
  unfold stepI
  split
  · exact (h.flip _ _ (m256_eq x.at_).2 (m4096_eq x.bit).2).2
  split
  · exact (h.put x).flush.2
  · exact h.put x
end Go.Proofs
/- dunnageref02.Turn, and what the statements of chapter 02 hold bytes and their sums against. Conditions: those of each contract. -/
namespace Go.Proofs
open Go Go.Vc Go.Crc
def I64 (l : List Int) : List Value := l.map (Value.int .i64)
abbrev RdI (w : World) (s : SV) (l : List Int) : Prop := Rd w 1 s (I64 l)
theorem _root_.Go.Vc.Rd.lenI {w : World} {s : SV} {l : List Int} (h : RdI w s l) : s.len = l.length := by have := h.len; simp [I64] at this; exact this.symm
theorem _root_.Go.Vc.Rd.cellI {w : World} {s : SV} {l : List Int} (h : RdI w s l) {i : Nat} {b : Int} (hb : l[i]? = some b) {A : Addr} (hA : s.a = some A) : w.cell? (A.add (i * 1)) = some (.int .i64 b) := by
  rw [Nat.mul_one]; exact h.at_ A hA i _ (by simp [I64, hb])
theorem SV.getI {w : World} {s : SV} {l : List Int} (h : RdI w s l) {i : Nat} (hi : i < l.length) {K : Addr → Prop} (hk : ∀ A, s.a = some A → K A) : onP s.a K := by
  cases hA : s.a with
  | none => have := h.nil hA; rw [h.lenI] at this; omega
  | some A => exact hk A hA
end Go.Proofs
/- dunnagelaw29.ScrubTurned: whatever was written, nothing is told, if no bit is turned; with one to three turned bits of some sectors just these are told. Conditions: what came in is of the sizes that the form allows. -/
namespace Go.Proofs
open Go Go.Vc Go.Crc
/-! ### the plain law -/
def Fine (y : Sec) : Prop := y.1 = List.replicate 512 0 ∨ ∃ (k : UInt8) (t : Nat) (p : List UInt8), knownK k = true ∧ p.length ≤ 496 ∧ t < 2 ^ 64 ∧ y.1 = sealB k t p
theorem Fine.good {y : Sec} (h : Fine y) : goodB y.1 = true := by
  rcases h with h | ⟨k, t, p, h1, h2, h3, h4⟩
  · rw [h]; exact good_zero
  · rw [h4]; exact good_seal h1 h2 h3
structure Gd (D : DK) : Prop where
  kept : ∀ y ∈ D.kept, Fine y
  wait : ∀ p ∈ D.waits, Fine p.2
theorem applyW_fine : ∀ {ws : List Wr} {K : List Sec}, (∀ y ∈ K, Fine y) → (∀ p ∈ ws, Fine p.2) → ∀ y ∈ applyW K ws, Fine y
  | [], K, hK, _ => hK
  | p :: r, K, hK, hw => by
    have h1 : ∀ y ∈ K.set p.1 p.2, Fine y := fun y hy => by
      rcases List.mem_or_eq_of_mem_set hy with h | rfl
      · exact hK y h
      · exact hw p (by simp)
    exact applyW_fine (ws := r) h1 fun q hq => hw q (by simp [hq])
theorem Gd.step {D : DK} {i : Nat} (hO : OkD D i) (h : Gd D) (x : ItV) (ht : x.turn = false) (hi : i < 2 ^ 64) : Gd (stepI D i x) := by
  have hp : Gd (putI D i x) := by
    unfold putI
    split
    · rename_i h0
      rw [(hO.write _ _ (m256_eq x.at_).2).1]
      split
      · rename_i h512
        refine ⟨h.kept, fun p hp => ?_⟩
        rcases List.mem_append.1 hp with hp | hp
        · exact h.wait p hp
        · obtain rfl := by simpa using hp
          refine .inr ⟨x.kind, i, x.data, ?_⟩
          rw [secOf_val h512]
          unfold sealR at h0 ⊢
          split at h0
          · simp at h0
          split at h0
          · simp at h0
          · rename_i h1 h2
            refine ⟨by simpa using h1, by omega, hi, ?_⟩
            rw [if_neg h1, if_neg h2]
      · exact h
    · exact h
  unfold stepI
  rw [if_neg (by rw [ht]; simp)]
  split
  · rw [((hO.put x).flush).1]
    exact ⟨applyW_fine hp.kept hp.wait, by simp⟩
  · exact hp
/-! ### the walk -/
theorem i64_flat : ∀ l : List Int, l.flatMap (fun x : Int => [Value.int .i64 x]) = I64 l
  | [] => rfl
  | x :: r => by rw [List.flatMap_cons, i64_flat r]; rfl
theorem ints_rel {w : World} {bd : TypeId → Nat → Prop} {bs : Nat → Prop} {e : TypeId} {a : Option Addr} {len cap : Nat}
    (h : DS.rel w bd bs (.slice e 1 (.int .i64)) [.slice a len cap]) : ∃ l : List Int, RdI w ⟨a, len, cap⟩ l ∧ ∀ x ∈ l, -9223372036854775808 ≤ x ∧ x ≤ 9223372036854775807 := by
  have key : ∀ es : List Value, es.length = 1 → DS.rel w bd bs (.int .i64) es → ∃ x : Int, [Value.int .i64 x] = es ∧ (-9223372036854775808 ≤ x ∧ x ≤ 9223372036854775807) := by
    intro es hl hr
    obtain ⟨n, h0, w0⟩ := hr
    have : IntKind.i64.min ≤ n ∧ n ≤ IntKind.i64.max := by simpa [Lit.wf] using w0
    exact ⟨n, h0.symm, this⟩
  obtain ⟨l, h1, h2, h3, h4⟩ := DS.flat (enc := fun x : Int => [Value.int .i64 x]) (fun x => -9223372036854775808 ≤ x ∧ x ≤ 9223372036854775807) h (fun _ => rfl) (by decide) key
  have hm := i64_flat l
  refine ⟨l, ?_, h4⟩
  have h5 := h1.rd
  rw [hm] at h5
  exact h5
theorem items_cap {w : World} {bd : TypeId → Nat → Prop} {bs : Nat → Prop} {e : TypeId} {n : Nat} {d : DS} {a : Option Addr} {len cap : Nat} (h : DS.rel w bd bs (.slice e n d) [.slice a len cap]) : len ≤ cap ∧ (cap = 0 ∨ bd e cap) := by
  obtain ⟨a', len', cap', he, h⟩ := h
  simp only [List.cons.injEq, Value.slice.injEq, and_true] at he
  obtain ⟨rfl, rfl, rfl⟩ := he
  rcases h with ⟨rfl, rfl, rfl⟩ | ⟨A, rfl, hle, hb, _⟩
  · exact ⟨Nat.le_refl _, .inl rfl⟩
  · exact ⟨hle, .inr hb⟩
end Go.Proofs
/- dunnagelaw29.ScrubHolds: which sectors hold what counts. Conditions: what came in is of the sizes that the form allows. -/
namespace Go.Proofs
open Go Go.Vc Go.Crc
def anyE (live : List Ex) (p : Int) : Bool := live.any fun e => decide (e.2.1 ≤ p ∧ p - e.2.1 < e.2.2)
def smallE (live : List Ex) : Bool := live.all fun e => decide ((0 ≤ e.2.1 ∧ e.2.1 ≤ 65536) ∧ 0 ≤ e.2.2 ∧ e.2.2 ≤ 65536)
/-- Does the sector hold what counts? -/
def HoldsP (n q s : Int) (live : List Ex) (im pa : Int) (logs : List Int) (x : Int) : Prop :=
  (x = 0 ∨ x = 1 ∨ x = 2) ∨ (im = 0 ∧ 13 + q ≤ x ∧ x < 13 + q + min pa q) ∨ (im = 1 ∧ 13 + 2 * q ≤ x ∧ x < 13 + 2 * q + min pa q) ∨ x ∈ logs ∨ (regP n q s x = 7 ∧ ((logicF n q s x).2 = false ∨ anyE live (logicF n q s x).1 = true))
instance (n q s : Int) (live : List Ex) (im pa : Int) (logs : List Int) (x : Int) : Decidable (HoldsP n q s live im pa logs x) := by unfold HoldsP; exact inferInstance
theorem regP_cases {n q s : Int} (hp : PL n q s) (x : Int) : (regP n q s x = 1 ↔ 0 ≤ x ∧ x < 2) ∧ (regP n q s x = 2 ↔ x = 2) ∧ (regP n q s x = 5 ↔ 13 + q ≤ x ∧ x < 13 + 2 * q) ∧ (regP n q s x = 6 ↔ 13 + 2 * q ≤ x ∧ x < 13 + 3 * q) ∧ (regP n q s x = 7 → 13 + 3 * q ≤ x ∧ x < 13 + 3 * q + 32 * s) := by
  have h7 := regP_seven (x := x) hp
  have := hp.q1
  have := hp.q2
  have := hp.n1
  unfold regP at h7 ⊢
  repeat' split
  all_goals (refine ⟨?_, ?_, ?_, ?_, ?_⟩ <;> omega)
/-! ### slices.Contains, ContainsFunc -/
theorem slices_Contains.spec {w : World} {s : SV} {l : List Int} (h : RdI w s l) (hl : l.length < 2 ^ 62) (x : Int) :
    CallT [.one .bool] Try.prog F.slices_Contains_int_int [.slice s.a s.len s.cap, .int .i64 x] w fun r w' => r = decide (x ∈ l) ∧ w = w' := by
  refine slices_Contains_int_int.vc s x w _ (slices_Index_int_int.vc s x w _ ?_)
  have hsl := h.lenI
  refine ⟨fun n i w' => ∃ k : Nat, i = k ∧ k ≤ l.length ∧ n = l.length - k ∧ w = w' ∧ x ∉ l.take k, ⟨_, 0, rfl, by omega, rfl, rfl, by simp⟩, ?_⟩
  rintro n i j _ ⟨k, rfl, hk, rfl, rfl, hx⟩
  refine cnd_dec (fun hlt => ?_) (fun hge => ?_)
  · have hkl : k < l.length := by omega
    refine ⟨by omega, by omega, SV.getI h hkl fun A hA => ⟨l[k], by rw [Int.toNat_natCast]; exact h.cellI (List.getElem?_eq_getElem hkl) hA, cnd_beq (fun he => ⟨?_, rfl⟩) (fun hne => ⟨l.length - (k + 1), by omega, k + 1, by rw [i64_id] <;> omega, by omega, rfl, rfl, ?_⟩)⟩⟩
    · rw [decide_eq_decide]
      refine ⟨fun _ => he ▸ List.getElem_mem hkl, fun _ => by omega⟩
    · rw [List.take_add_one, List.getElem?_eq_getElem hkl]
      simp only [Option.toList_some, List.mem_append, List.mem_singleton, not_or]
      exact ⟨hx, hne⟩
  · have : k = l.length := by omega
    subst this
    rw [List.take_length] at hx
    exact ⟨by rw [decide_eq_decide]; exact ⟨fun h => by omega, fun h => absurd h hx⟩, rfl⟩
theorem scrub_Holds_1.spec {w : World} {b : Nat} {p : Int} (hb : BK w b T.int [.int .i64 p]) (e : Ex) (he : (0 ≤ e.2.1 ∧ e.2.1 ≤ 65536)) (hp : -1000000 ≤ p ∧ p ≤ 1000000) :
    CallT [.one .bool] Try.prog F.scrub_Holds_1 [.agg (encEx e).toArray, .pointer (some ⟨b, 0, none⟩)] w fun r w' => r = decide (e.2.1 ≤ p ∧ p - e.2.1 < e.2.2) ∧ Ext w w' := by
  refine scrub_Holds_1.vc e (some ⟨b, 0, none⟩) w _ ?_
  generalize hc : w.alloc _ = w1
  obtain ⟨b1, e1, z1⟩ := bk_new (T := T.api_Extent) (vs := encEx e) hc
  have hb1 := hb.ext e1
  refine ⟨p, hb1.get0 rfl, e.2.1, b1.get 1 rfl, cnd_dec (fun h1 => ⟨p, hb1.get0 rfl, e.2.1, b1.get 1 rfl, e.2.2, b1.get 2 rfl, ?_, e1⟩) (fun h1 => ⟨?_, e1⟩)⟩
  · rw [i64_id (by omega) (by omega), decide_eq_decide]; omega
  · rw [eq_comm, decide_eq_false_iff_not]; omega
theorem slices_ContainsFunc.spec {w : World} {s : SV} {l : List Ex} {b : Nat} {p : Int} (h : RdS encEx 3 w s l) (hl : l.length < 2 ^ 62) (hsm : smallE l = true) (hb : BK w b T.int [.int .i64 p]) (hp : -1000000 ≤ p ∧ p ≤ 1000000) :
    CallT [.one .bool] Try.prog F.slices_ContainsFunc_api_Extent_api_Extent [.slice s.a s.len s.cap, .func (.func F.scrub_Holds_1) #[] #[.pointer (some ⟨b, 0, none⟩)]] w fun r w' => r = anyE l p ∧ Ext w w' := by
  refine slices_ContainsFunc_api_Extent_api_Extent.vc s _ w _ (slices_IndexFunc_api_Extent_api_Extent.vc s _ w _ ?_)
  have hsl := h.len
  refine ⟨fun n i w' => ∃ k : Nat, i = k ∧ k ≤ l.length ∧ n = l.length - k ∧ Ext w w' ∧ anyE (l.take k) p = false, ⟨_, 0, rfl, by omega, rfl, Upd.refl _ _, rfl⟩, ?_⟩
  rintro n i j w1 ⟨k, rfl, hk, rfl, e1, hx⟩
  refine cnd_dec (fun hlt => ?_) (fun hge => ?_)
  · have hkl : k < l.length := by omega
    have hsk : (0 ≤ l[k].2.1 ∧ l[k].2.1 ≤ 65536) := by
      have := List.all_eq_true.1 hsm _ (List.getElem_mem hkl)
      exact (of_decide_eq_true this).1
    refine ⟨by omega, by omega, (h.ext e1).get hkl fun A hA => ⟨l[k], by rw [Int.toNat_natCast]; exact (h.ext e1).at_ (List.getElem?_eq_getElem hkl) hA, ?_⟩⟩
    refine CallT.mono (scrub_Holds_1.spec (hb.ext e1) l[k] hsk hp) ?_
    rintro _ w2 ⟨rfl, e2⟩
    refine cnd_dec (fun ht => ⟨?_, e1.tr e2⟩) (fun hf => ⟨l.length - (k + 1), by omega, k + 1, by rw [i64_id] <;> omega, by omega, rfl, e1.tr e2, ?_⟩)
    · have h1 : anyE l p = true := List.any_eq_true.2 ⟨l[k], List.getElem_mem hkl, decide_eq_true ht⟩
      rw [h1, decide_eq_true_iff]; omega
    · rw [List.take_add_one, List.getElem?_eq_getElem hkl, anyE, List.any_append]
      unfold anyE at hx
      rw [hx]
      simp only [Option.toList_some, List.any_cons, List.any_nil, Bool.or_false, Bool.false_or]
      exact decide_eq_false hf
  · have : k = l.length := by omega
    subst this
    rw [List.take_length] at hx
    exact ⟨by rw [hx]; decide, e1⟩
theorem dunnageref22_Small.spec {w : World} {s : SV} {l : List Ex} (h : RdS encEx 3 w s l) (hl : l.length < 2 ^ 62) :
    CallT [.one .bool] Try.prog F.dunnageref22_Small [.slice s.a s.len s.cap] w fun r w' => r = smallE l ∧ w = w' := by
  refine dunnageref22_Small.vc s w _ ?_
  have hsl := h.len
  refine ⟨fun n i w' => ∃ k : Nat, i = k ∧ k ≤ l.length ∧ n = l.length - k ∧ w = w' ∧ smallE (l.take k) = true, ⟨_, 0, rfl, by omega, rfl, rfl, rfl⟩, ?_⟩
  rintro n i j _ ⟨k, rfl, hk, rfl, rfl, hx⟩
  have hit : Int.toNat (k : Int) = k := Int.toNat_natCast k
  refine cnd_dec (fun hlt => ?_) (fun hge => ?_)
  · have hkl : k < l.length := by omega
    have hg := List.getElem?_eq_getElem hkl
    have no : ¬ ((0 ≤ l[k].2.1 ∧ l[k].2.1 ≤ 65536) ∧ 0 ≤ l[k].2.2 ∧ l[k].2.2 ≤ 65536) → false = smallE l ∧ w = w := fun hn => by
      refine ⟨?_, rfl⟩
      symm
      rw [smallE, List.all_eq_false]
      exact ⟨l[k], List.getElem_mem hkl, by simpa using hn⟩
    refine ⟨by omega, by omega, h.get hkl fun A hA => ⟨l[k].2.1, by rw [hit]; exact h.fld hg hA (k := 1) rfl, cnd_dec (fun g => no (by omega)) fun g1 => ?_⟩⟩
    refine ⟨by omega, by omega, h.get hkl fun A hA => ⟨l[k].2.1, by rw [hit]; exact h.fld hg hA (k := 1) rfl, cnd_dec (fun g => no (by omega)) fun g2 => ?_⟩⟩
    refine ⟨by omega, by omega, h.get hkl fun A hA => ⟨l[k].2.2, by rw [hit]; exact h.fld hg hA (k := 2) rfl, cnd_dec (fun g => no (by omega)) fun g3 => ?_⟩⟩
    refine ⟨by omega, by omega, h.get hkl fun A hA => ⟨l[k].2.2, by rw [hit]; exact h.fld hg hA (k := 2) rfl, cnd_dec (fun g => no (by omega)) fun g4 => ?_⟩⟩
    refine ⟨l.length - (k + 1), by omega, k + 1, by rw [i64_id] <;> omega, by omega, rfl, rfl, ?_⟩
    rw [List.take_add_one, hg, smallE, List.all_append]
    unfold smallE at hx
    rw [hx]
    simp only [Option.toList_some, List.all_cons, List.all_nil, Bool.and_true, Bool.true_and]
    exact decide_eq_true (by omega)
  · have : k = l.length := by omega
    subst this
    rw [List.take_length] at hx
    exact ⟨hx.symm, rfl⟩
theorem logicF_rng {n q s : Int} (hp : PL n q s) (x : Int) : -1000000 ≤ (logicF n q s x).1 ∧ (logicF n q s x).1 ≤ 1000000 := by
  unfold logicF
  split
  · rename_i h
    have h7 := (regP_cases hp x).2.2.2.2 h.1
    have := hp.s1
    have := hp.n2
    have := hp.q1
    have := hp.n1
    have := hp.q2
    simp only
    omega
  · simp
set_option maxRecDepth 100000 in
set_option maxHeartbeats 1000000 in
theorem scrub_Holds.spec {w : World} {n q s : Int} (hp : PL n q s) {sl sg : SV} {live : List Ex} {logs : List Int} {m : Man} {x : Int} (hx : -9223372036854775808 ≤ x ∧ x ≤ 9223372036854775807) (hl : RdS encEx 3 w sl live) (hll : live.length < 2 ^ 62) (hsm : smallE live = true) (hg : RdI w sg logs) (hgl : logs.length < 2 ^ 62) :
    CallT [.one .bool] Try.prog F.scrub_Holds [(lay n q s).v, .slice sl.a sl.len sl.cap, .agg (m9v m.t).toArray, .slice sg.a sg.len sg.cap, .int .i64 x] w fun r w' => r = decide (HoldsP n q s live m.image m.parts logs x) ∧ Ext w w' := by
  refine scrub_Holds.vc (lay n q s) sl m.t sg x w _ ?_
  have b1 := LB.new w (lay n q s)
  have e1 := ext_alloc w (.cells (lay n q s).vs.toArray T.api_Layout)
  dsimp only
  generalize w.alloc _ = w1 at *
  generalize hc2 : w1.alloc _ = w2
  obtain ⟨b2, e2, z2⟩ := bk_new (T := T.api_Manifest) (vs := m9v m.t) hc2
  have e02 := e1.tr e2
  have l2 := b1.ext e2
  have yes : ∀ {w' : World}, Ext w w' → HoldsP n q s live m.image m.parts logs x → true = decide (HoldsP n q s live m.image m.parts logs x) ∧ Ext w w' := fun e h => ⟨by rw [eq_comm, decide_eq_true_iff]; exact h, e⟩
  have no : ∀ {w' : World}, Ext w w' → ¬ HoldsP n q s live m.image m.parts logs x → false = decide (HoldsP n q s live m.image m.parts logs x) ∧ Ext w w' := fun e h => ⟨by rw [eq_comm, decide_eq_false_iff_not]; exact h, e⟩
  refine CallT.mono (slices_Contains.spec (hg.ext e02) hgl x) ?_
  rintro _ _ ⟨rfl, rfl⟩
  refine cnd_dec (fun h1 => yes e02 (.inr (.inr (.inr (.inl h1))))) (fun h1 => ?_)
  refine ⟨lay n q s, l2.all, CallT.mono (layout_Region.spec hp x w2) ?_⟩
  rintro _ w3 ⟨rfl, e3⟩
  have e03 := e02.tr e3
  have l3 := l2.ext e3
  have b3 := b2.ext e3
  obtain ⟨r1, r2, r5, r6, r7⟩ := regP_cases hp x
  have hpq := hp.q1
  have hpq2 := hp.q2
  have hpn := hp.n1
  have hpn2 := hp.n2
  refine ⟨fun b v => w3 = v ∧ (b = true ↔ (regP n q s x = 1 ∨ regP n q s x = 2)), cnd_beq (fun h => ⟨rfl, by simp [h]⟩) (fun h => ⟨rfl, by simp [h]⟩), ?_⟩
  rintro b _ _ ⟨rfl, hb⟩
  cases b with
  | true => exact cnd_pos rfl (yes e03 (.inl (by have := hb.1 rfl; omega)))
  | false =>
  have hb' : ¬ (regP n q s x = 1 ∨ regP n q s x = 2) := fun h => by have := hb.2 h; simp at this
  refine cnd_neg rfl (cnd_beq (fun h5 => ?_) fun h5 => cnd_beq (fun h6 => ?_) fun h6 => cnd_beq (fun h7 => ?_) fun h7 => ?_)
  · have hr := r5.1 h5
    refine ⟨m.image, b3.get 2 rfl, cnd_beq (fun hi => ?_) (fun hi => no e03 ?_)⟩
    · refine ⟨by decide, by decide, 13 + q, ?_, m.parts, b3.get 3 rfl, ?_, e03⟩
      · rw [show Int.toNat 0 * 1 = 0 from rfl, add_add]; exact l3.get 4 rfl
      · rw [i64_id (by omega) (by omega), decide_eq_decide]
        unfold HoldsP
        have h7' : regP n q s x ≠ 7 := by omega
        constructor
        · intro h; right; left; omega
        · rintro (h | h | h | h | h)
          · omega
          · omega
          · omega
          · exact absurd h h1
          · exact absurd h.1 h7'
    · unfold HoldsP
      have h7' : regP n q s x ≠ 7 := by omega
      rintro (h | h | h | h | h)
      · omega
      · omega
      · omega
      · exact h1 h
      · exact h7' h.1
  · have hr := r6.1 h6
    refine ⟨m.image, b3.get 2 rfl, cnd_beq (fun hi => ?_) (fun hi => no e03 ?_)⟩
    · refine ⟨by decide, by decide, 13 + 2 * q, ?_, m.parts, b3.get 3 rfl, ?_, e03⟩
      · rw [show Int.toNat 1 * 1 = 1 from rfl, add_add]; exact l3.get 5 rfl
      · rw [i64_id (by omega) (by omega), decide_eq_decide]
        unfold HoldsP
        have h7' : regP n q s x ≠ 7 := by omega
        constructor
        · intro h; right; right; left; omega
        · rintro (h | h | h | h | h)
          · omega
          · omega
          · omega
          · exact absurd h h1
          · exact absurd h.1 h7'
    · unfold HoldsP
      have h7' : regP n q s x ≠ 7 := by omega
      rintro (h | h | h | h | h)
      · omega
      · omega
      · omega
      · exact h1 h
      · exact h7' h.1
  · have hr := r7 h7
    refine ⟨lay n q s, l3.all, CallT.mono (layout_Logic.spec hp x w3) ?_⟩
    rintro _ w4 ⟨rfl, e4⟩
    have e04 := e03.tr e4
    have hlr := logicF_rng hp x
    have hH : HoldsP n q s live m.image m.parts logs x ↔ ((logicF n q s x).2 = false ∨ anyE live (logicF n q s x).1 = true) := by
      unfold HoldsP
      constructor
      · rintro (h | h | h | h | h)
        · omega
        · omega
        · omega
        · exact absurd h h1
        · exact h.2
      · intro h; exact .inr (.inr (.inr (.inr ⟨h7, h⟩)))
    generalize ha5 : w4.alloc _ = w5
    obtain ⟨b5, e5, z5⟩ := bk_new (T := T.int) (vs := [.int .i64 0]) ha5
    obtain ⟨k1, k2, k3⟩ := b5.store0 (by simp) (.int .i64 (logicF n q s x).1)
    refine ⟨k1, k2, ?_⟩
    have u6 : Upd (fun y => y = w4.heap.size) w5 (w5.setCell ⟨w4.heap.size, 0, none⟩ (.int .i64 (logicF n q s x).1)) := (Upd.refl (fun y => y = w4.heap.size) w5).set (p := ⟨w4.heap.size, 0, none⟩) (fun _ => rfl) _
    generalize w5.setCell _ _ = w6 at *
    have hz4 := e04.size
    have e06 : Ext w w6 := (e04.tr e5).trans u6 fun y hy h => by omega
    refine cnd_not (fun hf => yes e06 (hH.2 (.inl hf))) (fun ht => ?_)
    refine CallT.mono (slices_ContainsFunc.spec (hl.ext e06) hll hsm k3 hlr) ?_
    rintro _ w7 ⟨rfl, e7⟩
    refine ⟨?_, e06.tr e7⟩
    rw [Bool.eq_iff_iff, decide_eq_true_iff, hH, ht]
    simp
  · refine no e03 ?_
    unfold HoldsP
    rintro (h | h | h | h | h)
    · rcases h with h | h | h
      · exact hb' (.inl (r1.2 (by omega)))
      · exact hb' (.inl (r1.2 (by omega)))
      · exact hb' (.inr (r2.2 h))
    · exact h5 (r5.2 (by omega))
    · exact h6 (r6.2 (by omega))
    · exact h1 h
    · exact h7 h.1
theorem dunnageref29_in.spec {a b c : Int} (h1 : 0 ≤ b) (h2 : b ≤ 1000000) (h3 : 0 ≤ c) (h4 : c ≤ 1000000) (w : World) :
    CallT [.one .bool] Try.prog F.dunnageref29_in [.int .i64 a, .int .i64 b, .int .i64 c] w fun r w' => r = decide (b ≤ a ∧ a < b + c) ∧ w = w' := by
  refine dunnageref29_in.vc a b c w _ ?_
  rw [i64_id (by omega) (by omega)]
  refine cnd_dec (fun h => ⟨by rw [decide_eq_decide]; omega, rfl⟩) (fun h => ⟨by rw [eq_comm, decide_eq_false_iff_not]; omega, rfl⟩)
set_option maxRecDepth 100000 in
set_option maxHeartbeats 1000000 in
theorem ref29_Holds.spec {w : World} {n q s : Int} (hp : PL n q s) {sl sg : SV} {live : List Ex} {logs : List Int} {m : Man} {x : Int} (hl : RdS encEx 3 w sl live) (hll : live.length < 2 ^ 62) (hsm : smallE live = true) (hg : RdI w sg logs) (hgl : logs.length < 2 ^ 62) :
    CallT [.one .bool] Try.prog F.dunnageref29_Holds [(lay n q s).v, .slice sl.a sl.len sl.cap, .agg (m9v m.t).toArray, .slice sg.a sg.len sg.cap, .int .i64 x] w fun r w' => r = decide (HoldsP n q s live m.image m.parts logs x) ∧ Ext w w' := by
  refine dunnageref29_Holds.vc (lay n q s) sl m.t sg x w _ ?_
  have b1 := LB.new w (lay n q s)
  have e1 := ext_alloc w (.cells (lay n q s).vs.toArray T.api_Layout)
  dsimp only
  generalize w.alloc _ = w1 at *
  generalize hc2 : w1.alloc _ = w2
  obtain ⟨b2, e2, z2⟩ := bk_new (T := T.api_Manifest) (vs := m9v m.t) hc2
  have e02 := e1.tr e2
  have l2 := b1.ext e2
  have hll' := hl.len
  have hgl' := hg.lenI
  have yes : ∀ {w' : World}, Ext w w' → HoldsP n q s live m.image m.parts logs x → true = decide (HoldsP n q s live m.image m.parts logs x) ∧ Ext w w' := fun e h => ⟨by rw [eq_comm, decide_eq_true_iff]; exact h, e⟩
  have no : ∀ {w' : World}, Ext w w' → ¬ HoldsP n q s live m.image m.parts logs x → false = decide (HoldsP n q s live m.image m.parts logs x) ∧ Ext w w' := fun e h => ⟨by rw [eq_comm, decide_eq_false_iff_not]; exact h, e⟩
  have hpq := hp.q1
  have hpq2 := hp.q2
  have hpn := hp.n1
  have hpn2 := hp.n2
  refine ⟨fun _ v => w2 = v ∧ ¬ (x = 0 ∨ x = 1 ∨ x = 2), cnd_beq (fun h => yes e02 (.inl (.inl h))) fun h0 => cnd_beq (fun h => yes e02 (.inl (.inr (.inl h)))) fun h1 => cnd_beq (fun h => yes e02 (.inl (.inr (.inr h)))) fun h2 => ⟨rfl, by omega⟩, ?_⟩
  rintro _ _ _ ⟨rfl, hx0⟩
  have e2d := e02.tr (ext_drew w2)
  have l2d := l2.ext (ext_drew w2)
  have b2d := b2.ext (ext_drew w2)
  generalize w2.drew = w3 at *
  refine ⟨fun _ v => w3 = v ∧ ¬ ((m.image = 0 ∧ 13 + q ≤ x ∧ x < 13 + q + min m.parts q) ∨ (m.image = 1 ∧ 13 + 2 * q ≤ x ∧ x < 13 + 2 * q + min m.parts q)), ⟨m.image, b2d.get 2 rfl, cnd_beq (fun hi => ?_) (fun hi0 => ⟨m.image, b2d.get 2 rfl, cnd_beq (fun hi => ?_) fun hi1 => ⟨rfl, by omega⟩⟩)⟩, ?_⟩
  · refine ⟨m.parts, b2d.get 3 rfl, cnd_dec (fun hpa => ?_) fun hpa => ⟨rfl, by omega⟩⟩
    refine ⟨0, by rw [← hi]; exact b2d.get 2 rfl, by decide, by decide, 13 + q, by rw [show Int.toNat 0 * 1 = 0 from rfl, add_add]; exact l2d.get 4 rfl, m.parts, b2d.get 3 rfl, q, l2d.get 6 rfl, CallT.mono (dunnageref29_in.spec (a := x) (b := 13 + q) (c := min m.parts q) (by omega) (by omega) (by omega) (by omega) w3) ?_⟩
    rintro _ _ ⟨rfl, rfl⟩
    exact cnd_dec (fun h => yes e2d (.inr (.inl ⟨hi, h⟩))) fun h => ⟨rfl, by omega⟩
  · refine ⟨m.parts, b2d.get 3 rfl, cnd_dec (fun hpa => ?_) fun hpa => ⟨rfl, by omega⟩⟩
    refine ⟨1, by rw [← hi]; exact b2d.get 2 rfl, by decide, by decide, 13 + 2 * q, by rw [show Int.toNat 1 * 1 = 1 from rfl, add_add]; exact l2d.get 5 rfl, m.parts, b2d.get 3 rfl, q, l2d.get 6 rfl, CallT.mono (dunnageref29_in.spec (a := x) (b := 13 + 2 * q) (c := min m.parts q) (by omega) (by omega) (by omega) (by omega) w3) ?_⟩
    rintro _ _ ⟨rfl, rfl⟩
    exact cnd_dec (fun h => yes e2d (.inr (.inr (.inl ⟨hi, h⟩)))) fun h => ⟨rfl, by omega⟩
  rintro _ _ _ ⟨rfl, him⟩
  have hg3 := hg.ext e2d
  refine ⟨fun a i w' => ∃ k : Nat, i = k ∧ k ≤ logs.length ∧ a = logs.length - k ∧ w3 = w' ∧ x ∉ logs.take k, ⟨_, 0, rfl, by omega, rfl, rfl, by simp⟩, ?_⟩
  rintro a i j _ ⟨k, rfl, hk, rfl, rfl, hx⟩
  refine cnd_dec (fun hlt => ?_) (fun hge => ?_)
  · have hkl : k < logs.length := by omega
    refine ⟨by omega, by omega, SV.getI hg3 hkl fun A hA => ⟨logs[k], by rw [Int.toNat_natCast]; exact hg3.cellI (List.getElem?_eq_getElem hkl) hA, cnd_beq (fun he => yes e2d (.inr (.inr (.inr (.inl (he ▸ List.getElem_mem hkl)))))) (fun hne => ⟨logs.length - (k + 1), by omega, k + 1, by rw [i64_id] <;> omega, by omega, rfl, rfl, ?_⟩)⟩⟩
    rw [List.take_add_one, List.getElem?_eq_getElem hkl]
    simp only [Option.toList_some, List.mem_append, List.mem_singleton, not_or]
    exact ⟨hx, fun h => hne h.symm⟩
  have hke : k = logs.length := by omega
  subst hke
  rw [List.take_length] at hx
  refine ⟨lay n q s, l2d.all, CallT.mono (dunnageref05_Region.spec hp x w3) ?_⟩
  rintro _ w4 ⟨rfl, e4⟩
  have e04 := e2d.tr e4
  have hH : HoldsP n q s live m.image m.parts logs x ↔ (regP n q s x = 7 ∧ ((logicF n q s x).2 = false ∨ anyE live (logicF n q s x).1 = true)) := by
    unfold HoldsP
    constructor
    · rintro (h | h | h | h | h)
      · exact absurd h hx0
      · exact absurd (.inl h) him
      · exact absurd (.inr h) him
      · exact absurd h hx
      · exact h
    · intro h; exact .inr (.inr (.inr (.inr h)))
  refine cnd_bne (fun hne => no e04 fun h => hne (hH.1 h).1) (fun h7 => ?_)
  refine ⟨lay n q s, (l2d.ext e4).all, CallT.mono (dunnageref05_Logic.spec hp x w4) ?_⟩
  rintro _ w5 ⟨rfl, e5⟩
  have e05 := e04.tr e5
  have hlr := logicF_rng hp x
  refine cnd_not (fun hf => yes e05 (hH.2 ⟨h7, .inl hf⟩)) (fun ht => ?_)
  generalize hP : (logicF n q s x).1 = p at *
  refine ⟨fun a i w' => ∃ k : Nat, i = k ∧ k ≤ live.length ∧ a = live.length - k ∧ Ext w w' ∧ anyE (live.take k) p = false, ⟨_, 0, rfl, by omega, rfl, e05, rfl⟩, ?_⟩
  rintro a i j w6 ⟨k, rfl, hk, rfl, e06, hx6⟩
  have hit : Int.toNat (k : Int) = k := Int.toNat_natCast k
  refine cnd_dec (fun hlt => ?_) (fun hge => ?_)
  · have hkl : k < live.length := by omega
    have hsk : (0 ≤ live[k].2.1 ∧ live[k].2.1 ≤ 65536) := by
      have := List.all_eq_true.1 hsm _ (List.getElem_mem hkl)
      exact (of_decide_eq_true this).1
    have e6d := e06.tr (ext_drew w6)
    generalize w6.drew = w7 at *
    have hlv := hl.ext e6d
    have hgk := List.getElem?_eq_getElem hkl
    have next : ¬ (live[k].2.1 ≤ p ∧ p - live[k].2.1 < live[k].2.2) → ∃ b, b < live.length - k ∧ ∃ k' : Nat, IntKind.i64.wrap ((k : Int) + 1) = (k' : Int) ∧ k' ≤ live.length ∧ b = live.length - k' ∧ Ext w w7 ∧ anyE (live.take k') p = false := fun hn => by
      refine ⟨live.length - (k + 1), by omega, k + 1, by rw [i64_id] <;> omega, by omega, rfl, e6d, ?_⟩
      rw [List.take_add_one, hgk, anyE, List.any_append]
      unfold anyE at hx6
      rw [hx6]
      simp only [Option.toList_some, List.any_cons, List.any_nil, Bool.or_false, Bool.false_or]
      exact decide_eq_false hn
    refine ⟨by omega, by omega, hlv.get hkl fun A hA => ⟨live[k].2.1, by rw [hit]; exact hlv.fld hgk hA (k := 1) rfl, cnd_dec (fun h1 => ?_) fun h1 => next (by omega)⟩⟩
    refine ⟨by omega, by omega, hlv.get hkl fun A hA => ⟨live[k].2.1, by rw [hit]; exact hlv.fld hgk hA (k := 1) rfl, by omega, by omega, hlv.get hkl fun A2 hA2 => ⟨live[k].2.2, by rw [hit]; exact hlv.fld hgk hA2 (k := 2) rfl, ?_⟩⟩⟩
    rw [i64_id (by omega) (by omega)]
    refine cnd_dec (fun h2 => yes e6d (hH.2 ⟨h7, .inr (List.any_eq_true.2 ⟨live[k], List.getElem_mem hkl, decide_eq_true ⟨by omega, h2⟩⟩)⟩)) fun h2 => next (by omega)
  · have hke : k = live.length := by omega
    subst hke
    rw [List.take_length] at hx6
    refine no e06 fun h => ?_
    rcases (hH.1 h).2 with g | g
    · rw [g] at ht; simp at ht
    · rw [hx6] at g; simp at g
set_option maxRecDepth 100000 in
set_option maxHeartbeats 2000000 in
theorem dunnagelaw29_ScrubHolds.spec {w : World} {nn : Int} {sl sg : SV} {live : List Ex} {logs : List Int} {m : Man} {x : Int} (hx : -9223372036854775808 ≤ x ∧ x ≤ 9223372036854775807) (hl : RdS encEx 3 w sl live) (hll : live.length * 24 ≤ 140737488351232) (hg : RdI w sg logs) (hgl : logs.length < 2 ^ 62) :
    CallT [.one .bool] Try.prog F.dunnagelaw29_ScrubHolds [.int .i64 nn, .slice sl.a sl.len sl.cap, .agg (m9v m.t).toArray, .slice sg.a sg.len sg.cap, .int .i64 x] w fun r w' => r = true ∧ Ext w w' := by
  refine dunnagelaw29_ScrubHolds.vc nn sl m.t sg x w _ ?_
  generalize hc1 : w.alloc _ = w1
  obtain ⟨b1, e1, z1⟩ := bk_new (T := T.api_Manifest) (vs := m9v m.t) hc1
  refine CallT.mono (dunnageref05_Plan.spec nn w1) ?_
  rintro ⟨y, ey⟩ w2 ⟨hy, e2⟩
  have hlay : ∃ L : L9, y = L ∧ (ey = 0 → ∃ n q s, PL n q s ∧ L = lay n q s) := by
    refine ⟨y, rfl, fun h0 => ?_⟩
    rcases planF_cases nn with h | ⟨q, s, hp, h⟩
    · rw [h] at hy
      have h9 : ey = (1 : Int) := congrArg Prod.snd hy
      rw [h0] at h9
      exact absurd h9 (by decide)
    · rw [h] at hy
      exact ⟨nn, q, s, hp, congrArg Prod.fst hy⟩
  obtain ⟨L, rfl, hL⟩ := hlay
  dsimp only
  generalize ha3 : w2.alloc _ = w3
  generalize hd3 : setCells w3 _ 0 _ = w4
  obtain ⟨c4, b4, e4, z4⟩ := bk_mk (T := T.api_Layout) (z := lay0.vs) (vs := L9.vs y) ha3 hd3 rfl
  have e04 := (e1.tr e2).tr e4
  have hl62 : live.length < 2 ^ 62 := by omega
  refine ⟨c4, fun _ v => Ext w4 v ∧ ey = 0 ∧ smallE live = true, ⟨fun b v => Ext w4 v ∧ (b = false → ey = 0 ∧ smallE live = true), CallT.mono (awake29.spec w4) ?_, ?_⟩, ?_⟩
  · rintro _ w5 ⟨rfl, e5⟩
    refine cnd_neg rfl (cnd_bne (fun h => ⟨e5, by simp⟩) fun h => CallT.mono (dunnageref22_Small.spec (hl.ext (e04.tr e5)) hl62) ?_)
    rintro _ _ ⟨rfl, rfl⟩
    exact ⟨e5, fun hb => ⟨h, by simpa using hb⟩⟩
  · rintro b _ w5 ⟨e5, hb⟩
    cases b with
    | false => exact cnd_neg rfl ⟨e5, hb rfl⟩
    | true =>
      refine cnd_pos rfl (CallT.mono (awake29.spec w5) ?_)
      rintro _ w6 ⟨rfl, e6⟩
      exact ⟨rfl, (e04.tr e5).tr e6⟩
  rintro _ _ w5 ⟨e5, he0, hsm⟩
  obtain ⟨n, q, s, hp, rfl⟩ := hL he0
  have e05 := e04.tr e5
  have b45 := b4.ext e5
  have b15 := ((b1.ext e2).ext e4).ext e5
  refine CallT.mono (dunnagehelp_Own_api_Extent.spec (hl.ext e05) hll (71, 0, 0)) ?_
  rintro o w6 ⟨hol, hoc, e6, g, ho⟩
  have e06 := e05.tr e6
  have ed := ext_drew w6
  refine ⟨fun v => Ext w6 v, ed, lay n q s, fun v hv => ((b45.ext e6).ext hv).all, m.t, fun v hv => ((b15.ext e6).ext hv).all, lay n q s, fun v hv => ((b45.ext e6).ext hv).all, m.t, fun v hv => ((b15.ext e6).ext hv).all, ?_⟩
  have ord : ∀ {v : World}, Ext w6 v → RdS encEx 3 v o live := fun hv => ⟨(ho.ext hv).rd, encEx_len, by decide⟩
  refine CallT.mono (scrub_Holds.spec (w := w6.drew) hp hx (ord ed) hl62 hsm (hg.ext (e06.tr ed)) hgl) ?_
  rintro _ w7 ⟨rfl, e7⟩
  have f7 := ed.tr e7
  refine ⟨f7, CallT.mono (ref29_Holds.spec hp (hl.ext (e06.tr f7)) hl62 hsm (hg.ext (e06.tr f7)) hgl) ?_⟩
  rintro _ w8 ⟨rfl, e8⟩
  have f8 := f7.tr e8
  refine ⟨f8, cnd_pos (by simp) (CallT.mono (dunnagehelp_Kept_api_Extent.spec (c := (71, 0, 0)) (ho.ext f8) (hl.ext (e06.tr f8)) hl62) ?_)⟩
  rintro _ w9 ⟨rfl, e9⟩
  exact ⟨f8.tr e9, by simp, (e06.tr f8).tr e9⟩
theorem exts_rel {w : World} {bd : TypeId → Nat → Prop} {bs : Nat → Prop} {e : TypeId} {a : Option Addr} {len cap : Nat}
    (h : DS.rel w bd bs (.slice e 3 (.struct (.cons 0 1 (.int .u64) (.cons 1 1 (.int .i64) (.cons 2 1 (.int .i64) .nil))))) [.slice a len cap]) : ∃ l : List Ex, RdS encEx 3 w ⟨a, len, cap⟩ l := by
  have key : ∀ es : List Value, es.length = 3 → DS.rel w bd bs (.struct (.cons 0 1 (.int .u64) (.cons 1 1 (.int .i64) (.cons 2 1 (.int .i64) .nil)))) es → ∃ x : Ex, encEx x = es ∧ True := by
    intro es hl hr
    match es, hl with
    | [v0, v1, v2], _ =>
      obtain ⟨⟨n0, h0, w0⟩, ⟨n1, h1, w1⟩, ⟨n2, h2, w2⟩, _⟩ := hr
      simp only [List.drop_zero, List.drop_succ_cons, List.take_succ_cons, List.take_zero, List.cons.injEq, and_true] at h0 h1 h2
      subst h0 h1 h2
      exact ⟨(n0, n1, n2), rfl, trivial⟩
  obtain ⟨l, h1, _⟩ := DS.flat (enc := encEx) (fun _ => True) h (fun _ => rfl) (by decide) key
  exact ⟨l, h1⟩
theorem dunnagelaw29_ScrubHolds.row {w : World} {nn x : Int} {a a' : Option Addr} {len cap len' cap' : Nat} {m0 : Array Value}
    (h : DS.rel w (bdReach Try.prog) bsReach (.slice T.api_Extent 3 (.struct (.cons 0 1 (.int .u64) (.cons 1 1 (.int .i64) (.cons 2 1 (.int .i64) .nil))))) [.slice a len cap])
    (hm : DS.rel w (bdReach Try.prog) bsReach (.struct (.cons 0 1 (.int .u64) (.cons 1 1 (.int .u64) (.cons 2 1 (.int .i64) (.cons 3 1 (.int .i64) (.cons 4 1 (.int .u64) (.cons 5 1 (.int .u64) (.cons 6 1 (.int .u64) (.cons 7 1 (.int .u64) (.cons 8 1 (.int .u64) .nil)))))))))) m0.toList) (g : m0.size = 9)
    (h' : DS.rel w (bdReach Try.prog) bsReach (.slice T.int 1 (.int .i64)) [.slice a' len' cap']) (hx : -9223372036854775808 ≤ x ∧ x ≤ 9223372036854775807) :
    CallT [.one .bool] Try.prog F.dunnagelaw29_ScrubHolds [.int .i64 nn, .slice a len cap, .agg m0, .slice a' len' cap', .int .i64 x] w fun r w' => r = true ∧ Ext w w' := by
  obtain ⟨l, hl⟩ := exts_rel h
  obtain ⟨lg, hlg, _⟩ := ints_rel h'
  obtain ⟨m, rfl, _⟩ := man_rel hm g
  have c1 : l.length * 24 ≤ 140737488351232 := by
    have h1 : len = l.length := hl.len
    obtain ⟨h2, h3⟩ := items_cap h
    have hb : Try.prog.bytesOf T.api_Extent = 24 := by kernel_rfl
    rcases h3 with h3 | h3
    · omega
    · unfold bdReach at h3
      rw [hb] at h3
      have h4 : cap * 24 ≤ 140737488351232 := h3
      omega
  have c2 : lg.length < 2 ^ 62 := by
    have h1 : len' = lg.length := hlg.lenI
    obtain ⟨h2, h3⟩ := items_cap h'
    have hb : Try.prog.bytesOf T.int = 8 := by kernel_rfl
    rcases h3 with h3 | h3
    · omega
    · unfold bdReach at h3
      rw [hb] at h3
      have h4 : cap' * 8 ≤ 140737488351232 := h3
      omega
  exact dunnagelaw29_ScrubHolds.spec hx hl c1 hlg c2
end Go.Proofs
