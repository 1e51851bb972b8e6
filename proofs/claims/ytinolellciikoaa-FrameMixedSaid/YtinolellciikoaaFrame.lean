/- frame: Concat, may, Write, Count, and the document's. Conditions: those of each contract. -/
import Derived.Test.YtinolellciikoaaCond7
import Derived.Test.YtinolellciikoaaCond13
import Derived.Test.YtinolellciikoaaWordR
import Derived.Test.YtinolellciikoaaGrow
import Derived.Test.YtinolellciikoaaRowsL
import Derived.Test.YtinolellciikoaaBlk
namespace Go.Proofs
open Go Go.Vc
theorem concat.spec {w : World} {s0 : SV} {l : List (List UInt8)} (h : RdL w s0 l) (hl : l.flatten.length ≤ 1000000) (hn : l.length ≤ 1000000) :
    CallT [.one .slice] Try.prog F.slices_Concat_byte_byte [.slice s0.a s0.len s0.cap] w fun o w' => OwnB w' w.heap.size o l.flatten ∧ Ext w w' := by
  refine slices_Concat_byte_byte.vc s0 w _ ?_
  have hsl := h.len
  have htake : ∀ i, (l.take i).flatten.length ≤ l.flatten.length := fun i => by
    have : l.flatten = (l.take i).flatten ++ (l.drop i).flatten := by rw [← List.flatten_append, List.take_append_drop]
    rw [this, List.length_append]; omega
  have hstep : ∀ {i : Nat} {x : List UInt8}, l[i]? = some x → (l.take (i + 1)).flatten = (l.take i).flatten ++ x := fun hx => by
    rw [List.take_add_one, hx]; simp
  refine ⟨fun m x w' => ∃ i : Nat, x = (((l.take i).flatten.length : Int), (i : Int)) ∧ i ≤ l.length ∧ m = l.length - i ∧ w = w', ⟨_, 0, by simp, by omega, rfl, rfl⟩, ?_⟩
  rintro m _ _ _ ⟨i, rfl, hi, rfl, rfl⟩
  dsimp only
  have hti := htake i
  refine cnd_dec (fun hlt => ?_) (fun hge => ?_)
  · have hil : i < l.length := by omega
    have hx : l[i]? = some l[i] := List.getElem?_eq_getElem hil
    generalize l[i] = x at hx
    have hw : IntKind.i64.wrap ((i : Int) + 1) = ((i + 1 : Nat) : Int) := by rw [i64_id] <;> omega
    refine ⟨by omega, by omega, h.at_ hx fun A t hA hc ht => ⟨t, ?_, ?_⟩⟩
    · rw [Int.toNat_natCast]; exact hc
    have htl := ht.lenB
    have hs := hstep hx
    have ht1 := htake (i + 1)
    rw [hs, List.length_append] at ht1
    have hw2 : IntKind.i64.wrap (((l.take i).flatten.length : Int) + (t.len : Int)) = (((l.take (i + 1)).flatten.length : Nat) : Int) := by
      rw [hs, List.length_append, i64_id] <;> omega
    rw [hw2]
    refine cnd_neg (decide_eq_false (by omega)) ⟨l.length - (i + 1), by omega, i + 1, by rw [hw], by omega, rfl, rfl⟩
  · have : i = l.length := by omega
    subst this
    rw [List.take_length]
    refine CallT.mono (grow.spec l.flatten.length (by omega) w) ?_
    rintro o w1 ⟨ho, e1⟩
    refine ⟨fun m x w' => ∃ (i : Nat) (s : SV), x = (s, (i : Int)) ∧ i ≤ l.length ∧ m = l.length - i ∧ OwnB w' w.heap.size s (l.take i).flatten ∧ Ext w w', ⟨_, 0, o, rfl, by omega, rfl, ho, e1⟩, ?_⟩
    rintro m _ _ w2 ⟨i, s, rfl, hi, rfl, h2, e2⟩
    dsimp only
    refine cnd_dec (fun hlt => ?_) (fun hge => ?_)
    · have hil : i < l.length := by omega
      have hx : l[i]? = some l[i] := List.getElem?_eq_getElem hil
      generalize l[i] = x at hx
      have hw : IntKind.i64.wrap ((i : Int) + 1) = ((i + 1 : Nat) : Int) := by rw [i64_id] <;> omega
      refine ⟨by omega, by omega, (h.ext e2).at_ hx fun A t hA hc ht => ⟨t, ?_, ?_⟩⟩
      · rw [Int.toNat_natCast]; exact hc
      have htl := ht.lenB
      have h2l := h2.lenB
      have hs := hstep hx
      have ht1 := htake (i + 1)
      rw [hs, List.length_append] at ht1
      refine appV_own appB h2 (ht.src (B8_one _)) e2.size (fun hc => ?_) fun s' w3 h3 _ u3 _ => ?_
      · have := nextcap_le hc; omega
      refine ⟨l.length - (i + 1), by omega, i + 1, s', by rw [hw], by omega, rfl, ?_, e2.own h2 (Nat.le_refl _) u3⟩
      rw [hs, OwnB, B8_append]; exact h3
    · have : i = l.length := by omega
      subst this
      rw [List.take_length] at h2
      exact ⟨h2, e2⟩

/-! ### frames -/
abbrev FrV := Int × Int × Int × SV
@[reducible] def frV (x : FrV) : List Value := [.int .u64 x.1, .int .u64 x.2.1, .int .i64 x.2.2.1, .slice x.2.2.2.a x.2.2.2.len x.2.2.2.cap]
def mayF (of : Int) (n : Nat) : Bool := decide (1 ≤ of ∧ of ≤ 32 ∧ n ≤ 440)
theorem frame_may.spec (x0 : FrV) (w : World) : CallT [.one .bool] Try.prog F.frame_may [.agg #[.int .u64 x0.1, .int .u64 x0.2.1, .int .i64 x0.2.2.1, .slice x0.2.2.2.a x0.2.2.2.len x0.2.2.2.cap]] w fun r w' => r = mayF x0.2.2.1 x0.2.2.2.len ∧ Ext w w' := by
  refine frame_may.vc x0 w _ ?_
  generalize hc : w.alloc _ = w1
  obtain ⟨b1, e1, z1⟩ := bk_new (T := T.api_Frame) (vs := frV x0) hc
  dsimp only
  refine ⟨x0.2.2.1, b1.get 2 rfl, cnd_dec (fun h1 => ⟨x0.2.2.1, b1.get 2 rfl, cnd_dec (fun h2 => ⟨x0.2.2.2, b1.get 3 rfl, ?_, e1⟩) (fun h2 => ⟨?_, e1⟩)⟩) (fun h1 => ⟨?_, e1⟩)⟩
  · rw [mayF, decide_eq_decide]; omega
  · rw [mayF, eq_comm, decide_eq_false_iff_not]; omega
  · rw [mayF, eq_comm, decide_eq_false_iff_not]; omega
theorem ref06_May.spec (x0 : FrV) (w : World) : CallT [.one .bool] Try.prog F.dunnageref06_May [.agg #[.int .u64 x0.1, .int .u64 x0.2.1, .int .i64 x0.2.2.1, .slice x0.2.2.2.a x0.2.2.2.len x0.2.2.2.cap]] w fun r w' => r = mayF x0.2.2.1 x0.2.2.2.len ∧ Ext w w' := by
  refine dunnageref06_May.vc x0 w _ ?_
  generalize hc : w.alloc _ = w1
  obtain ⟨b1, e1, z1⟩ := bk_new (T := T.api_Frame) (vs := frV x0) hc
  dsimp only
  refine ⟨x0.2.2.1, b1.get 2 rfl, cnd_dec (fun h1 => ⟨x0.2.2.1, b1.get 2 rfl, cnd_dec (fun h2 => ⟨x0.2.2.2, b1.get 3 rfl, ?_, e1⟩) (fun h2 => ⟨?_, e1⟩)⟩) (fun h1 => ⟨?_, e1⟩)⟩
  · rw [mayF, decide_eq_decide]; omega
  · rw [mayF, eq_comm, decide_eq_false_iff_not]; omega
  · rw [mayF, eq_comm, decide_eq_false_iff_not]; omega
def countF (n : Int) : Int := if n < 0 then 0 else if n = 0 then 1 else (n - 1) / 440 + 1
theorem frame_Count.spec (n : Int) (hn : -9223372036854775808 ≤ n ∧ n ≤ 9223372036854775807) (w : World) : CallT [.one (.int .i64)] Try.prog F.frame_Count [.int .i64 n] w fun r w' => r = countF n ∧ w = w' := by
  refine frame_Count.vc n w _ (cnd_dec (fun h => ⟨by rw [countF, if_pos h], rfl⟩) fun h => ⟨?_, rfl⟩)
  rw [countF, if_neg h, Int.tdiv_eq_ediv_of_nonneg (by omega), Int.tmod_eq_emod_of_nonneg (by omega)]
  rw [i64_id (x := n / 440) (by omega) (by omega), i64_id (x := n / 440 + min (n % 440) 1) (by omega) (by omega)]
  have key : (max (n / 440 + min (n % 440) 1) 1 : Int) = if n = 0 then 1 else (n - 1) / 440 + 1 := by
    by_cases h0 : n = 0
    · subst h0; decide
    · rw [if_neg h0]; omega
  exact key
theorem ref06_Count.spec (n : Int) (hn : -9223372036854775808 ≤ n ∧ n ≤ 9223372036854775807) (w : World) : CallT [.one (.int .i64)] Try.prog F.dunnageref06_Count [.int .i64 n] w fun r w' => r = countF n ∧ w = w' := by
  refine dunnageref06_Count.vc n w _ (cnd_dec (fun h => ⟨by rw [countF, if_pos h], rfl⟩) fun h => cnd_beq (fun h0 => ⟨by rw [countF, if_neg h, if_pos h0], rfl⟩) fun h0 => ⟨?_, rfl⟩)
  rw [countF, if_neg h, if_neg h0, i64_id (x := n - 1) (by omega) (by omega), Int.tdiv_eq_ediv_of_nonneg (a := n - 1) (by omega), i64_id (x := (n - 1) / 440) (by omega) (by omega), i64_id (x := (n - 1) / 440 + 1) (by omega) (by omega)]
/-- What a frame is as bytes. -/
def frB (a f : Nat) (of : Int) (d : List UInt8) : List UInt8 := varB a ++ varB f ++ varB (IntKind.u64.wrap of).toNat ++ d
theorem frB_len {a f : Nat} {of : Int} {d : List UInt8} (ha : a < 2 ^ 64) (hf : f < 2 ^ 64) (hd : d.length ≤ 440) : (frB a f of d).length ≤ 470 := by
  have h1 := varB_10 ha
  have h2 := varB_10 hf
  have h3 := varB_10 (v := (IntKind.u64.wrap of).toNat) (by rw [u64_mod]; omega)
  rw [frB]; simp only [List.length_append]; omega
def wrF (a f : Nat) (of : Int) (d : List UInt8) : List UInt8 × Int := if mayF of d.length = true then (frB a f of d, 0) else ([], 11)
theorem frame_Write.spec {w : World} {a f : Nat} {of : Int} {s : SV} {d : List UInt8} (ha : a < 2 ^ 64) (hf : f < 2 ^ 64) (hd : RdB w s d) :
    CallT [.one .slice, .one (.int .i64)] Try.prog F.frame_Write [.agg #[.int .u64 a, .int .u64 f, .int .i64 of, .slice s.a s.len s.cap]] w fun r w' => OwnB w' w.heap.size r.1 (wrF a f of d).1 ∧ r.2 = (wrF a f of d).2 ∧ Ext w w' := by
  refine frame_Write.vc ((a : Int), (f : Int), of, s) w _ ?_
  have hdl := hd.lenB
  generalize hc : w.alloc _ = w1
  obtain ⟨b1, e1, z1⟩ := bk_new (T := T.api_Frame) (vs := frV ((a : Int), (f : Int), of, s)) hc
  dsimp only
  refine ⟨((a : Int), (f : Int), of, s), b1.all, CallT.mono (frame_may.spec ((a : Int), (f : Int), of, s) w1) ?_⟩
  rintro _ w2 ⟨rfl, e2⟩
  dsimp only
  rw [hdl]
  have e12 : Ext w w2 := e1.trans e2 fun _ _ h => h
  refine cnd_not (fun hm => ?_) (fun hm => ?_)
  · rw [wrF, if_neg (by rw [hm]; simp)]
    exact ⟨Own.nil _ _ _ _, rfl, e12⟩
  rw [wrF, if_pos hm]
  have hm' : 1 ≤ of ∧ of ≤ 32 ∧ d.length ≤ 440 := by simpa [mayF] using hm
  have bd : BK w2.drew w.heap.size T.api_Frame (frV ((a : Int), (f : Int), of, s)) := (b1.ext e2).drew
  refine ⟨fun w' => BK w' w.heap.size T.api_Frame (frV ((a : Int), (f : Int), of, s)), bd, (a : Int), fun _ h => h.get 0 rfl, (f : Int), fun _ h => h.get 1 rfl, of, fun _ h => h.get 2 rfl, s, fun _ h => h.get 3 rfl, CallT.mono (word_Var.spec a ha w2.drew) ?_⟩
  rintro x1 w3 ⟨g1, e3, _⟩
  have b3 := bd.upd e3 id
  refine ⟨b3, CallT.mono (word_Var.spec f hf w3) ?_⟩
  rintro x2 w4 ⟨g2, e4, _⟩
  have b4 := b3.upd e4 id
  have h64 : (IntKind.u64.wrap of).toNat < 2 ^ 64 := by rw [u64_mod]; omega
  have hcast : IntKind.u64.wrap of = (((IntKind.u64.wrap of).toNat : Nat) : Int) := by rw [u64_mod]; omega
  have hv := word_Var.spec (IntKind.u64.wrap of).toNat h64 w4
  rw [← hcast] at hv
  refine ⟨b4, CallT.mono hv ?_⟩
  rintro x3 w5 ⟨g3, e5, _⟩
  have b5 := b4.upd e5 id
  refine ⟨b5, ?_⟩
  generalize hc6 : w5.alloc _ = w6
  obtain ⟨b6, e6, z6⟩ := bk_new (T := T.sl_uint8) (vs := [.slice x1.a x1.len x1.cap, .slice x2.a x2.len x2.cap, .slice x3.a x3.len x3.cap, .slice s.a s.len s.cap]) hc6
  dsimp only
  have e26 : Ext w2 w6 := (((((ext_drew w2).trans e3 fun _ _ h => h).trans e4 fun _ _ h => h).trans e5 fun _ _ h => h).trans e6 fun _ _ h => h)
  have e06 : Ext w w6 := e12.trans e26 fun _ _ h => h
  have hL : RdL w6 ⟨some ⟨w5.heap.size, 0, none⟩, 4, 4⟩ [varB a, varB f, varB (IntKind.u64.wrap of).toNat, d] := by
    refine ⟨[(x1, varB a), (x2, varB f), (x3, varB (IntKind.u64.wrap of).toNat), (s, d)], ⟨⟨rfl, fun h => by simp at h, fun A hA => by obtain rfl := Option.some.inj hA; exact b6.all⟩, fun _ => rfl, by decide⟩, rfl, fun p hp => ?_⟩
    simp only [List.mem_cons, List.not_mem_nil, or_false] at hp
    rcases hp with rfl | rfl | rfl | rfl
    · exact (((g1.rd.ext e4).ext e5).ext e6)
    · exact ((g2.rd.ext e5).ext e6)
    · exact (g3.rd.ext e6)
    · exact hd.ext e06
  have hfl : [varB a, varB f, varB (IntKind.u64.wrap of).toNat, d].flatten = frB a f of d := by simp [frB]
  refine ⟨b5.ext e6, CallT.mono (concat.spec hL (by rw [hfl]; have := frB_len (of := of) ha hf hm'.2.2; omega) (by simp)) ?_⟩
  rintro o w7 ⟨ho, e7⟩
  rw [hfl] at ho
  exact ⟨(b5.ext e6).upd e7 id, Own.mono ho e06.size, rfl, e06.trans e7 fun _ _ h => h⟩
end Go.Proofs
