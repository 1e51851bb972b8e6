/- word: the walk over bytes; word.Zero; what the statements of chapter 01 are awake by. Conditions: those of each contract. -/
import Derived.Test.YtbnnpnillppdhaaCond2
import Derived.Test.YtbnnpnillppdhaaCond3
import Derived.Test.YtbnnpnillppdhaaHelp
namespace Go.Proofs
open Go Go.Vc

/-- The walk: S i holds ahead of the i-th byte, E i behind the last that do was told. -/
theorem word_walk_over.spec {M : Nat → Prop} {w : World} {x0 : Value} {s : SV} {l : List UInt8} (S E : Nat → World → Prop) (i0 : Nat)
    (hs : RdB w s l) (hl : l.length < 2 ^ 62) (hM0 : ¬ M w.heap.size) (hM : l ≠ [] → ∀ b, s.blk b → ¬ M b)
    (h0 : ∀ w', Ext w w' → S i0 w')
    (hstep : ∀ i b w', l[i]? = some b → Upd M w w' → w.heap.size < w'.heap.size → S i w' →
      callVal [.one .bool] Try.prog x0 [.int .u8 b.toNat] w'.drew fun r w2 => Upd M w' w2 ∧ cnd r (S (i + 1) w2) (E (i + 1) w2)) :
    CallT [.one (.int .i64), .one .bool] Try.prog F.word_walk_over [.agg #[x0], .slice s.a s.len s.cap, .int .i64 i0] w fun r w' =>
      Upd M w w' ∧ ∃ i : Nat, r.1 = i ∧ cnd r.2 (i = max i0 l.length ∧ S i w') (i ≤ l.length ∧ E i w') := by
  refine word_walk_over.vc x0 s i0 w _ ?_
  refine ⟨fun n x w' => ∃ i : Nat, x = i ∧ (i = i0 ∨ i ≤ l.length) ∧ i0 ≤ i ∧ n = l.length - i ∧ Upd M (w.alloc (.cells #[x0] T.word_walk)) w' ∧ S i w',
    ⟨_, i0, rfl, .inl rfl, Nat.le_refl _, rfl, Upd.refl _ _, h0 _ (ext_alloc _ _)⟩, ?_⟩
  rintro n x j w' ⟨i, rfl, hi, hle, rfl, hu, hS⟩
  have hlen := hs.lenB
  have hu0 : Upd M w w' := ((ext_alloc w _).to M).trans hu fun _ _ h => h
  refine cnd_dec (fun hlt => ?_) (fun hge => ?_)
  · have hil : i < l.length := by omega
    obtain ⟨b, hb⟩ : ∃ b, l[i]? = some b := ⟨_, List.getElem?_eq_getElem hil⟩
    have hw1 : IntKind.i64.wrap ((i : Int) + 1) = ((i + 1 : Nat) : Int) := by rw [i64_id] <;> omega
    have hw2 : IntKind.i64.wrap (((i + 1 : Nat) : Int) - 1) = (i : Int) := by rw [i64_id] <;> omega
    have hcl : w'.drew.cell? (Addr.add ⟨w.heap.size, 0, none⟩ 0) = some x0 := by
      have := hu.get (blk_new w (.cells #[x0] T.word_walk)) hM0
      rw [add_mk]
      exact cell_blk this
    refine ⟨x0, hcl, ?_⟩
    rw [hw1, hw2]
    refine ⟨by omega, by omega, SV.getB hs hil fun A hA => ⟨b.toNat, ?_, ?_⟩⟩
    · rw [Int.toNat_natCast]
      exact ((hs.upd hu0 (hM (List.ne_nil_of_length_pos (by omega)))).drew).cellB hb hA
    · have hsz : w.heap.size < w'.heap.size := by have := hu.size; simp at this; omega
      refine callVal.mono (hstep i b w' hb hu0 hsz hS) ?_
      rintro r w2 ⟨hu2, hr⟩
      refine cnd_not (fun hf => ?_) (fun ht => ?_)
      · subst hf
        exact ⟨hu0.trans hu2 fun _ _ h => h, i + 1, rfl, by omega, hr⟩
      · subst ht
        exact ⟨l.length - (i + 1), by omega, i + 1, rfl, by omega, by omega, rfl, hu.trans hu2 fun _ _ h => h, hr⟩
  · exact ⟨hu0, i, rfl, by omega, hS⟩

theorem walk_mk {w : World} {T : TypeId} {z f : Value} {K : Value → World → Prop} (hk : ∀ w1, Ext w w1 → w1.heap.size = w.heap.size + 1 → w1.drawn = w.drawn → K f w1) :
    canSt (w.alloc (.cells #[z] T)) ⟨w.heap.size, 0, none⟩ 1 ∧ (let w1 := setCells (w.alloc (.cells #[z] T)) ⟨w.heap.size, 0, none⟩ 0 [f]; ∃ x, cellsAt w1 ⟨w.heap.size, 0, none⟩ [x] ∧ K x w1) := by
  have hb := blk_new w (.cells [z].toArray T)
  refine ⟨canSt_blk hb (by simp), f, ?_, hk _ ?_ ?_ ?_⟩
  · exact cellsAt_blk (setCells_blk (o := 0) [f] _ 0 _ hb (by simp)) (by simp [spl])
  · exact (ext_alloc w _).setCells (p := ⟨w.heap.size, 0, none⟩) (fun h => by simp at h) 0 [f]
  · rw [setCells_size]; simp
  · rfl

theorem walk_mkd {w : World} {T : TypeId} {z f : Value} {K : Value → World → Prop} (hk : ∀ w1, Ext w w1 → w1.heap.size = w.heap.size + 1 → w1.drawn = w.drawn → K f w1) :
    canSt (w.alloc (.cells #[z] T)) ⟨w.heap.size, 0, none⟩ 1 ∧ (let w1 := setCells (w.alloc (.cells #[z] T)) ⟨w.heap.size, 0, none⟩ 0 [f]; ∃ x, cellsAt w1.drew ⟨w.heap.size, 0, none⟩ [x] ∧ K x w1) :=
  walk_mk hk
/-! ### word.Zero -/
theorem word_Zero_1.spec (n : Int) (w : World) : CallT [.one .bool] Try.prog F.word_Zero_1 [.int .u8 n] w fun r w' => r = (n == 0) ∧ w = w' :=
  word_Zero_1.vc n w _ ⟨rfl, rfl⟩
def allZ (l : List UInt8) : Bool := l.all (· == 0)
theorem word_Zero.spec {w : World} {s : SV} {l : List UInt8} (hs : RdB w s l) (hl : l.length < 2 ^ 62) :
    CallT [.one .bool] Try.prog F.word_Zero [.slice s.a s.len s.cap] w fun r w' => r = allZ l ∧ Ext w w' := by
  refine word_Zero.vc s w _ ?_
  refine walk_mk (K := fun x w1 => CallT _ _ _ [.agg #[x], _, _] w1 _) ?_
  intro w1 h1 h1s _
  refine CallT.mono (word_walk_over.spec (M := fun _ => False) (fun i _ => allZ (l.take i) = true) (fun i _ => allZ l = false) 0 (hs.ext h1) hl id (fun _ _ _ => id) (fun _ _ => rfl) ?_) ?_
  · intro i b w' hb hu _ hS
    refine CallT.mono (word_Zero_1.spec b.toNat w'.drew) ?_
    rintro r w2 ⟨rfl, rfl⟩
    refine ⟨(Upd.refl _ _).drew, cnd_beq (fun hz => ?_) (fun hz => ?_)⟩
    · have : b = 0 := by rw [← UInt8.toNat_inj]; simpa using hz
      subst this
      rw [List.take_add_one, hb]
      simp only [allZ, List.all_append] at hS ⊢
      simp [hS]
    · have : b ≠ 0 := by rintro rfl; exact hz rfl
      simp only [allZ, List.all_eq_false]
      exact ⟨b, List.mem_of_getElem? hb, by simpa using this⟩
  · rintro ⟨i, r⟩ w' ⟨hu, k, hk, hr⟩
    refine ⟨?_, h1.trans hu fun _ _ h => h⟩
    cases r with
    | true => obtain ⟨rfl, hr⟩ := hr; simpa using hr.symm
    | false => exact hr.2.symm

/-! ### awake -/
theorem dunnagelaw01_awake.spec (w : World) : CallT [.one .bool] Try.prog F.dunnagelaw01_awake [] w fun r w' => r = true ∧ Ext w w' := by
  refine dunnagelaw01_awake.vc w _ ?_
  refine CallT.mono (word_Var.spec 300 (by omega) w) ?_
  rintro s w1 ⟨ho, he, ha⟩
  have hv : varB 300 = [172, 2] := by rw [varB_ge (by omega), varB_lt (by omega)]; rfl
  rw [hv] at ho
  have hl := ho.lenB
  refine cnd_beq (fun _ => ?_) (fun h => absurd (by rw [hl]; rfl) h)
  refine ⟨by omega, by rw [hl]; decide, SV.getB ho.rd (i := 0) (by simp) fun A hA => ⟨172, ho.rd.cellB (i := 0) (b := 172) rfl hA, ?_⟩⟩
  refine CallT.mono (word_Zero.spec (s := ⟨none, 0, 0⟩) (l := []) (Rd.nil' _ _ _) (by simp)) ?_
  rintro _ w2 ⟨rfl, he2⟩
  refine CallT.mono (word_Zero.spec (s := ⟨some ⟨w2.heap.size, 0, none⟩, 1, 1⟩) (l := [1]) (Own.new w2 T.uint8 1 1 (B8 [1]) rfl).rd (by simp)) ?_
  rintro _ w3 ⟨rfl, he3⟩
  exact ⟨rfl, ((he.trans he2 fun _ _ h => h).alloc _).trans he3 fun _ _ h => h⟩
end Go.Proofs
