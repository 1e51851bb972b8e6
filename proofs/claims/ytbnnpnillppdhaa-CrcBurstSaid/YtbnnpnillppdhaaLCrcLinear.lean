/- The walk of dunnagelaw02.CrcLinear: it answers true, and turns nothing that was there. Conditions: what came in is of the sizes that the form allows. -/
import Derived.Test.YtbnnpnillppdhaaLCrcSums
namespace Go.Proofs
open Go Go.Vc Go.Crc
def xorB (a b : List UInt8) : List UInt8 := List.zipWith (· ^^^ ·) a b
theorem raw_xor : ∀ (a b : List UInt8) (s t : Nat), a.length = b.length → raw (s ^^^ t) (xorB a b) = raw s a ^^^ raw t b
  | [], [], s, t, _ => rfl
  | [], _ :: _, _, _, h => by simp at h
  | _ :: _, [], _, _, h => by simp at h
  | x :: a, y :: b, s, t, h => by
    have ih := raw_xor a b (hn 8 (s ^^^ x.toNat)) (hn 8 (t ^^^ y.toNat)) (by simpa using h)
    simp only [xorB, List.zipWith_cons_cons, raw] at ih ⊢
    rw [UInt8.toNat_xor, xor4, (hn_lin 8).x]
    exact ih
theorem xorB_len {a b : List UInt8} (h : a.length = b.length) : (xorB a b).length = a.length := by simp [xorB, h]
theorem more_xor3 {a b c : List UInt8} (h1 : a.length = b.length) (h2 : a.length = c.length) : more 0 (xorB (xorB a b) c) = more 0 a ^^^ more 0 b ^^^ more 0 c := by
  simp only [more, Nat.zero_xor]
  have e1 := raw_xor (xorB a b) c (M ^^^ M) M (by rw [xorB_len h1, h2])
  rw [raw_xor a b M M h1, Nat.xor_self, Nat.zero_xor] at e1
  rw [e1, xor4 (raw M a) M (raw M b) M, Nat.xor_self, Nat.xor_zero, Nat.xor_assoc]
theorem set_fill {X : List UInt8} {i n : Nat} (hi : i < n) (hX : X.length = n) {v : Value} (hv : v = .int .u8 ((X.getD i 0).toNat : Int)) :
    (B8 (X.take i) ++ List.replicate (n - i) (Value.int .u8 0)).set i v = B8 (X.take (i + 1)) ++ List.replicate (n - (i + 1)) (Value.int .u8 0) := by
  have hl : (B8 (X.take i)).length = i := by rw [B8_length, List.length_take]; omega
  rw [List.set_append_right _ _ (by omega), hl, Nat.sub_self]
  obtain ⟨d, hd⟩ : ∃ d, n - i = d + 1 := ⟨n - i - 1, by omega⟩
  have hx : X[i]? = some X[i] := List.getElem?_eq_getElem (by omega)
  rw [hd, show n - (i + 1) = d by omega, List.replicate_succ, List.set_cons_zero, List.take_add_one, hx, Option.toList_some, B8_append, hv]
  simp [B8, List.getD, hx]
theorem dunnagelaw02_CrcLinear.spec {s t u : SV} {a b c : List UInt8} {w : World} (hs : RdB w s a) (hcs : s.len ≤ s.cap) (hms : s.cap ≤ 140737488351232) (ht : RdB w t b) (hct : t.len ≤ t.cap) (_hmt : t.cap ≤ 140737488351232) (hu : RdB w u c) (hcu : u.len ≤ u.cap) (_hmu : u.cap ≤ 140737488351232) :
    CallT [.one .bool] Try.prog F.dunnagelaw02_CrcLinear [.slice s.a s.len s.cap, .slice t.a t.len t.cap, .slice u.a u.len u.cap] w fun r w' => r = true ∧ Ext w w' := by
  refine dunnagelaw02_CrcLinear.vc s t u w _ ?_
  have hsl := hs.lenB
  have htl := ht.lenB
  have hul := hu.lenB
  obtain ⟨n, hn0⟩ : ∃ n : Nat, min (min (s.len : Int) t.len) u.len = n := ⟨min (min s.len t.len) u.len, by omega⟩
  simp only [hn0]
  have hna : n ≤ a.length := by omega
  have hnb : n ≤ b.length := by omega
  have hnc : n ≤ c.length := by omega
  let X := xorB (xorB (a.take n) (b.take n)) (c.take n)
  have la : (a.take n).length = n := by rw [List.length_take]; omega
  have lb : (b.take n).length = n := by rw [List.length_take]; omega
  have lc : (c.take n).length = n := by rw [List.length_take]; omega
  have lab : (xorB (a.take n) (b.take n)).length = n := by rw [xorB_len (by omega), la]
  have hX : X.length = n := by show (xorB _ _).length = n; rw [xorB_len (by omega), lab]
  refine mkSV_own (bt := 1) (sz := 1) sl_u8 (by kernel_rfl) (by kernel_rfl) u8_z rfl (by omega) (by omega) (by omega) (by omega) ?_
  rw [Int.toNat_natCast, reps_eq]
  refine ⟨fun m x w' => ∃ i : Nat, x = (i : Int) ∧ i ≤ n ∧ m = n - i ∧ Ext w w' ∧ w'.heap[w.heap.size]? = some (.cells (B8 (X.take i) ++ List.replicate (n - i) (Value.int .u8 0)).toArray T.uint8 (0, 0)),
    ⟨_, 0, rfl, by omega, rfl, ext_alloc _ _, by rw [List.take_zero, Nat.sub_zero]; exact blk_new _ _⟩, ?_⟩
  rintro m _ j w1 ⟨i, rfl, hi, rfl, he, hb⟩
  refine cnd_dec (fun hlt => ?_) (fun hge => ?_)
  · have hin : i < n := by omega
    have hd : Ext w w1.drew := he.drew
    have hbd : w1.drew.heap[w.heap.size]? = some (.cells (B8 (X.take i) ++ List.replicate (n - i) (Value.int .u8 0)).toArray T.uint8 (0, 0)) := hb
    have hil : i < (B8 (X.take i) ++ List.replicate (n - i) (Value.int .u8 0)).length := by rw [List.length_append, B8_length, List.length_take, List.length_replicate]; omega
    refine ⟨by omega, by omega, SV.getB hs (i := i) (by omega) fun A hA => ⟨(a[i]'(by omega)).toNat, (hs.ext hd).cellB (List.getElem?_eq_getElem _) hA, by omega, by omega,
      SV.getB ht (i := i) (by omega) fun A' hA' => ⟨(b[i]'(by omega)).toNat, (ht.ext hd).cellB (List.getElem?_eq_getElem _) hA', by omega, by omega,
      SV.getB hu (i := i) (by omega) fun A'' hA'' => ⟨(c[i]'(by omega)).toNat, (hu.ext hd).cellB (List.getElem?_eq_getElem _) hA'', by omega, by show ((i : Int) < ((n : Nat) : Int)); omega, ?_⟩⟩⟩⟩
    simp only [onP_some, Int.toNat_natCast, Nat.mul_one, add_mk, Nat.zero_add]
    refine set_ok hbd (by simpa using hil) ⟨n - (i + 1), by omega, i + 1, by rw [i64_id] <;> omega, by omega, rfl, ?_, ?_⟩
    · exact hd.set (p := ⟨w.heap.size, i, none⟩) (fun h => by simp at h) _
    · rw [blk_set hbd, List.setIfInBounds_toArray, set_fill hin hX]
      have b1 : ∀ {p q : Nat}, p < 256 → q < 256 → bxor .u8 (p : Int) (q : Int) = ((p ^^^ q : Nat) : Int) := fun h1 h2 => bxor_nat rfl h1 h2
      rw [b1 (UInt8.toNat_lt _) (UInt8.toNat_lt _), b1 (Nat.xor_lt_two_pow (UInt8.toNat_lt _) (UInt8.toNat_lt _)) (UInt8.toNat_lt _)]
      congr 2
      simp only [List.getD, X, xorB, List.getElem?_zipWith, List.getElem?_take, hin, if_true, List.getElem?_eq_getElem (show i < a.length by omega), List.getElem?_eq_getElem (show i < b.length by omega), List.getElem?_eq_getElem (show i < c.length by omega), Option.getD_some, UInt8.toNat_xor]
  · have : i = n := by omega
    subst this
    rw [Nat.sub_self, List.take_of_length_le (by omega), List.replicate_zero, List.append_nil] at hb
    have hx : RdB w1 ⟨some ⟨w.heap.size, 0, none⟩, i, i⟩ X := by
      refine ⟨by rw [B8_length]; simp [hX], fun h => by simp at h, fun A hA => ?_⟩
      obtain rfl := Option.some.inj hA
      exact cellsAt_blk hb fun j v hv => by rw [Nat.zero_add, List.getElem?_toArray]; exact hv
    refine ⟨fun w' => Ext w1 w', ext_drew _, ?_⟩
    have c1 := dunnagelaw02_awake.spec w1.drew
    refine CallT.mono c1 ?_
    rintro _ w2 ⟨rfl, e2⟩
    have h2 : Ext w1 w2 := (ext_drew w1).tr e2
    refine ⟨h2, cnd_true ⟨by omega, by omega, by omega, by omega, by omega, by omega, ?_⟩⟩
    have c2 := crc_Sum.spec (hx.ext h2) (by omega)
    refine CallT.mono c2 ?_
    rintro _ w3 ⟨rfl, e3⟩
    have h3 := h2.tr e3
    refine ⟨h3, ?_⟩
    simp only [Int.toNat_natCast]
    have c3 := crc_Sum.spec ((hs.ext (he.tr h3)).subB hcs (i := 0) (j := i) (by omega) hna) (by rw [List.length_take]; omega)
    refine CallT.mono c3 ?_
    rintro _ w4 ⟨rfl, e4⟩
    have h4 := h3.tr e4
    refine ⟨h4, ?_⟩
    have c4 := crc_Sum.spec ((ht.ext (he.tr h4)).subB hct (i := 0) (j := i) (by omega) hnb) (by rw [List.length_take]; omega)
    refine CallT.mono c4 ?_
    rintro _ w5 ⟨rfl, e5⟩
    have h5 := h4.tr e5
    refine ⟨h5, ?_⟩
    have c5 := crc_Sum.spec ((hu.ext (he.tr h5)).subB hcu (i := 0) (j := i) (by omega) hnc) (by rw [List.length_take]; omega)
    refine CallT.mono c5 ?_
    rintro _ w6 ⟨rfl, e6⟩
    have h6 := h5.tr e6
    refine ⟨h6, ?_, he.tr h6⟩
    simp only [List.drop_zero, Nat.sub_zero]
    have m0 : ∀ l, more 0 l < 2 ^ 32 := fun l => more_lt (by decide) l
    rw [bx (m0 _) (m0 _), bx (Nat.xor_lt_two_pow (m0 _) (m0 _)) (m0 _), more_xor3 (by omega) (by omega)]
    simp
end Go.Proofs
