/- Texts that the claim leans on, one behind the other: each begins with a sentence of its own. Conditions: those that each names. -/
import Derived.Below
import Derived.ChangeOld
import Derived.Deep.Quiet
import Derived.KernelRfl
import Derived.Laws.Cells
import Derived.Laws.Entries
import Derived.Laws.Sem
import Derived.Laws.Strings
import Derived.Laws.World
import Derived.Lib.SlBytesConst
import Derived.OpenShut
import Derived.Orders
import Derived.OrdersHeld
import Derived.ProofKit
import Derived.ShutString
import Derived.SizedLaws
import Derived.StillTail
import Derived.Tactics
import Derived.Test.YtinolellciikoaaProg
import Derived.Test.YtinolellciikoaaRows
import Derived.Test.YtinolellciikoaaPkH2
/- Whole numbers' bits as Go has them, over the natural numbers. Conditions: that the numbers fit their kinds. -/
namespace Go.Vc
open Go
def IntKind.uns : IntKind → Bool | .u8 | .u16 | .u32 | .u64 => true | _ => false
theorem wrap_nat {k : IntKind} (hk : IntKind.uns k = true) {n : Nat} (h : n < 2 ^ k.bits) : k.wrap (n : Int) = n := by
  cases k <;> simp [IntKind.uns] at hk <;> simp only [IntKind.bits] at h <;> simp [IntKind.wrap, IntKind.signed, IntKind.bits] <;> omega
theorem wrap_mod {k : IntKind} (hk : IntKind.uns k = true) (n : Nat) : k.wrap (n : Int) = ((n % 2 ^ k.bits : Nat) : Int) := by
  cases k <;> simp [IntKind.uns] at hk <;> simp [IntKind.wrap, IntKind.signed, IntKind.bits]
theorem ofInt_nat (b n : Nat) : BitVec.ofInt b (n : Int) = BitVec.ofNat b n := BitVec.ofInt_natCast b n
theorem band_nat {k : IntKind} (hk : IntKind.uns k = true) {a b : Nat} (ha : a < 2 ^ k.bits) (hb : b < 2 ^ k.bits) : band k a b = ((a &&& b : Nat) : Int) := by
  unfold band
  rw [ofInt_nat, ofInt_nat, BitVec.toNat_and, BitVec.toNat_ofNat, BitVec.toNat_ofNat, Nat.mod_eq_of_lt ha, Nat.mod_eq_of_lt hb]
  exact wrap_nat hk (Nat.and_lt_two_pow _ hb)
theorem bor_nat {k : IntKind} (hk : IntKind.uns k = true) {a b : Nat} (ha : a < 2 ^ k.bits) (hb : b < 2 ^ k.bits) : bor k a b = ((a ||| b : Nat) : Int) := by
  unfold bor
  rw [ofInt_nat, ofInt_nat, BitVec.toNat_or, BitVec.toNat_ofNat, BitVec.toNat_ofNat, Nat.mod_eq_of_lt ha, Nat.mod_eq_of_lt hb]
  exact wrap_nat hk (Nat.or_lt_two_pow ha hb)
theorem bxor_nat {k : IntKind} (hk : IntKind.uns k = true) {a b : Nat} (ha : a < 2 ^ k.bits) (hb : b < 2 ^ k.bits) : bxor k a b = ((a ^^^ b : Nat) : Int) := by
  unfold bxor
  rw [ofInt_nat, ofInt_nat, BitVec.toNat_xor, BitVec.toNat_ofNat, BitVec.toNat_ofNat, Nat.mod_eq_of_lt ha, Nat.mod_eq_of_lt hb]
  exact wrap_nat hk (Nat.xor_lt_two_pow ha hb)
theorem shr_nat {k : IntKind} {a b : Nat} (hb : b ≤ k.bits) : shr k a b = ((a / 2 ^ b : Nat) : Int) := by
  unfold shr
  rw [Int.toNat_natCast, Nat.min_eq_left hb, Int.fdiv_eq_ediv_of_nonneg _ (by have := Nat.two_pow_pos b; exact_mod_cast Nat.zero_le _)]
  norm_cast
theorem shl_nat {k : IntKind} (hk : IntKind.uns k = true) {a b : Nat} (hb : b ≤ k.bits) : shl k a b = ((a * 2 ^ b % 2 ^ k.bits : Nat) : Int) := by
  unfold shl
  rw [Int.toNat_natCast, Nat.min_eq_left hb]
  have : ((a : Int) * 2 ^ b) = ((a * 2 ^ b : Nat) : Int) := by norm_cast
  rw [this, wrap_mod hk]
end Go.Vc
/- The numbers of the seat's functions. Conditions: none. -/
namespace Go.Proofs.F
open Go
abbrev dunnagelaw29_ScrubHolds : FuncId := 21
abbrev disk_New : FuncId := 37
abbrev disk_Disk_Down : FuncId := 43
abbrev disk_Disk_Read : FuncId := 44
abbrev disk_Disk_Flip : FuncId := 57
abbrev disk_Disk_Size : FuncId := 61
abbrev dunnageref05_Plan : FuncId := 64
abbrev scrub_Look : FuncId := 65
abbrev scrub_Part : FuncId := 66
abbrev dunnagelaw29_awake : FuncId := 67
abbrev dunnageref05_Region : FuncId := 82
abbrev dunnageref22_Small : FuncId := 84
abbrev dunnagehelp_Own_api_Extent : FuncId := 85
abbrev scrub_Holds : FuncId := 86
abbrev dunnageref29_Holds : FuncId := 87
abbrev dunnagehelp_Kept_api_Extent : FuncId := 88
abbrev disk_Disk_ready : FuncId := 107
abbrev disk_Disk_has : FuncId := 110
abbrev slices_Clone_byte_byte : FuncId := 111
abbrev dunnageref01_Reader_Num : FuncId := 118
abbrev dunnageref01_Reader_Most : FuncId := 119
abbrev layout_Plan : FuncId := 132
abbrev sector_Good : FuncId := 133
abbrev layout_Region : FuncId := 134
abbrev sector_Open : FuncId := 138
abbrev dunnageref05_in : FuncId := 142
abbrev slices_Contains_int_int : FuncId := 145
abbrev layout_Logic : FuncId := 146
abbrev slices_ContainsFunc_api_Extent_api_Extent : FuncId := 147
abbrev scrub_Holds_1 : FuncId := 148
abbrev dunnageref29_in : FuncId := 149
abbrev dunnageref05_Logic : FuncId := 150
abbrev dunnagehelp_Plain_api_Extent : FuncId := 151
abbrev word_walk_over : FuncId := 164
abbrev dunnageref01_ReadVar : FuncId := 165
abbrev layout_regions : FuncId := 169
abbrev sector_Known : FuncId := 170
abbrev crc_Sum : FuncId := 172
abbrev word_Zero : FuncId := 173
abbrev word_Get : FuncId := 174
abbrev slices_Index_int_int : FuncId := 180
abbrev slices_IndexFunc_api_Extent_api_Extent : FuncId := 181
abbrev dunnagehelp_Same_api_Extent : FuncId := 182
abbrev dunnagehelp_Plain_api_Extent_1 : FuncId := 183
abbrev crc_More : FuncId := 189
abbrev word_Zero_1 : FuncId := 190
abbrev word_Get_1 : FuncId := 191
abbrev crc_half : FuncId := 193
end Go.Proofs.F
namespace Go.Proofs.T
abbrev int : TypeId := 3
abbrev bool : TypeId := 4
abbrev uint8 : TypeId := 5
abbrev string : TypeId := 9
abbrev uint64 : TypeId := 22
abbrev sl_uint8 : TypeId := 23
abbrev api_Layout : TypeId := 83
abbrev sl_api_Bad : TypeId := 86
abbrev api_Manifest : TypeId := 92
abbrev api_Bad : TypeId := 111
abbrev sl_api_Extent : TypeId := 117
abbrev api_Extent : TypeId := 121
abbrev sl_disk_content : TypeId := 148
abbrev disk_Disk : TypeId := 151
abbrev disk_content : TypeId := 154
abbrev disk_write : TypeId := 156
abbrev dunnageref01_Reader : TypeId := 166
abbrev api_Sector : TypeId := 184
abbrev word_walk : TypeId := 211
abbrev layout_region : TypeId := 220
abbrev a16_uint32 : TypeId := 239
end Go.Proofs.T
/- Bytes: the seat's closed facts; word.Var, word.Zero, dunnagehelp.Bytes. Conditions: those of each contract. -/
namespace Go.Proofs
open Go Go.Vc

abbrev OwnB (w : World) (B : Nat) (s : SV) (l : List UInt8) : Prop := Own w B T.uint8 1 s (B8 l)
theorem _root_.Go.Vc.Own.lenB {w : World} {B : Nat} {s : SV} {l : List UInt8} (h : OwnB w B s l) : s.len = l.length := by have := h.len; rw [B8_length, Nat.mul_one] at this; exact this.symm

theorem appB : AppT Try.prog [T.sl_uint8, T.sl_uint8] T.uint8 1 1 [.int .u8 0] :=
  ⟨⟨T.sl_uint8, rfl, by kernel_rfl⟩, ⟨T.sl_uint8, _, rfl, by kernel_rfl, .inr ⟨T.uint8, rfl⟩⟩, by kernel_rfl, by kernel_rfl, by decide, by kernel_rfl, rfl, by decide⟩

/-! ### word.Var -/
def varB (v : Nat) : List UInt8 := if _h : v < 128 then [UInt8.ofNat v] else UInt8.ofNat (v % 128 + 128) :: varB (v / 128)
termination_by v
decreasing_by omega
theorem varB_lt {v : Nat} (h : v < 128) : varB v = [UInt8.ofNat v] := by rw [varB, dif_pos h]
theorem varB_ge {v : Nat} (h : ¬ v < 128) : varB v = UInt8.ofNat (v % 128 + 128) :: varB (v / 128) := by rw [varB, dif_neg h]
/-! ### dunnagehelp.Bytes -/
end Go.Proofs
/- A block of one's own with spare room; an append that has room; parts exchanged. Conditions: those that each lemma names. -/
namespace Go.Vc
open Go
/-- A block of one's own, from B on: the slice's elements, and what stands in its spare room. -/
structure Spare (w : World) (B : Nat) (T : TypeId) (sz : Nat) (s : SV) (b : Nat) (cs rest : List Value) : Prop where
  a : s.a = some ⟨b, 0, none⟩
  ge : B ≤ b
  blk : w.heap[b]? = some (.cells (cs ++ rest).toArray T (0, 0))
  len : cs.length = s.len * sz
  cap : (cs ++ rest).length = s.cap * sz
theorem Spare.own {w : World} {B : Nat} {T : TypeId} {sz : Nat} {s : SV} {b : Nat} {cs rest : List Value} (h : Spare w B T sz s b cs rest) (hle : s.len ≤ s.cap) : Own w B T sz s cs :=
  ⟨h.len, .inr ⟨b, rest, h.a, h.ge, h.blk, h.cap, hle⟩⟩
theorem Spare.rd {w : World} {B : Nat} {T : TypeId} {sz : Nat} {s : SV} {b : Nat} {cs rest : List Value} (h : Spare w B T sz s b cs rest) : Rd w sz s cs :=
  ⟨h.len, fun hn => by rw [h.a] at hn; simp at hn, fun A hA => by
    rw [h.a] at hA
    obtain rfl := Option.some.inj hA
    refine cellsAt_blk h.blk fun j v hv => ?_
    have : j < cs.length := (List.getElem?_eq_some_iff.1 hv).1
    simp [List.getElem?_append_left this, hv]⟩
theorem Spare.upd {M : Nat → Prop} {w w' : World} {B : Nat} {T : TypeId} {sz : Nat} {s : SV} {b : Nat} {cs rest : List Value} (h : Spare w B T sz s b cs rest) (hu : Upd M w w') (hm : ¬ M b) : Spare w' B T sz s b cs rest :=
  ⟨h.a, h.ge, hu.get h.blk hm, h.len, h.cap⟩
theorem Spare.ext {w w' : World} {B : Nat} {T : TypeId} {sz : Nat} {s : SV} {b : Nat} {cs rest : List Value} (h : Spare w B T sz s b cs rest) (hu : Ext w w') : Spare w' B T sz s b cs rest := h.upd hu id
theorem Spare.lt {w : World} {B : Nat} {T : TypeId} {sz : Nat} {s : SV} {b : Nat} {cs rest : List Value} (h : Spare w B T sz s b cs rest) : b < w.heap.size := lt_of_blk h.blk
theorem Spare.mono {w : World} {B B' : Nat} {T : TypeId} {sz : Nat} {s : SV} {b : Nat} {cs rest : List Value} (h : Spare w B T sz s b cs rest) (hB : B' ≤ B) : Spare w B' T sz s b cs rest :=
  ⟨h.a, Nat.le_trans hB h.ge, h.blk, h.len, h.cap⟩

/-- An append that has room. -/
theorem appV_fit {P : Program} {ts : List TypeId} {ty e : TypeId} {sz bt : Nat} {z : List Value} {w : World} {B b : Nat} {s : SV} {x : Value} {m : Nat} {cs rest news : List Value} {K : SV → World → Prop}
    (hT : AppT P ts e sz bt z) (hs : Spare w B e sz s b cs rest) (hx : Src P w sz x m news) (hfit : s.len + m ≤ s.cap)
    (hk : ∀ w', Spare w' B e sz ⟨s.a, s.len + m, s.cap⟩ b (cs ++ news) (rest.drop news.length) → Upd (fun x => x = b) w w' → K ⟨s.a, s.len + m, s.cap⟩ w') :
    appV P ts ty [.slice s.a s.len s.cap, x] w K := by
  obtain ⟨t0, ht0, hu0⟩ := hT.t0
  obtain ⟨t1, d1, ht1, hu1, hd1⟩ := hT.t1
  obtain ⟨ha, hb, hblk, hlen, hcap⟩ := hs
  have hst := storeCells_own (P := P) (o := s.len * sz) (vs := news) hblk (by rw [hcap, hx.size, ← Nat.add_mul]; exact Nat.mul_le_mul_right _ hfit) hx.one
  have hblk' := setCells_blk (o := s.len * sz) news w 0 _ hblk (by rw [Nat.add_zero, hcap, hx.size, ← Nat.add_mul]; exact Nat.mul_le_mul_right _ hfit)
  have hspl : spl (cs ++ rest) (s.len * sz + 0) news = (cs ++ news) ++ rest.drop news.length := by
    rw [Nat.add_zero, ← hlen]
    simp only [spl, List.take_left', List.append_assoc]
    rw [List.drop_append, List.drop_eq_nil_of_le (by omega)]
    simp
  rw [hspl] at hblk'
  unfold appV runV
  refine ⟨⟨s.a, s.len + m, s.cap⟩, setCells w ⟨b, s.len * sz, none⟩ 0 news, ?_, hk _ ⟨ha, hb, hblk', by simp [hlen, hx.size, Nat.add_mul], ?_⟩ ((Upd.refl (fun x => x = b) w).setCells (p := ⟨b, s.len * sz, none⟩) (fun _ => rfl) 0 news)⟩
  · simp only [Builtin.append_]
    rw [ht0]
    rcases hd1 with rfl | ⟨e1, rfl⟩ <;> simp [run_underlying hu0, run_szOf hT.size, ht1, run_underlying hu1, hx.len, hfit, hx.cells, ha, hst]
  · have h1 : news.length ≤ rest.length := by
      have : (cs ++ rest).length = cs.length + rest.length := by simp
      have h2 : (s.len + m) * sz ≤ s.cap * sz := Nat.mul_le_mul_right _ hfit
      rw [Nat.add_mul, ← hx.size, ← hlen] at h2
      omega
    rw [← hcap]; simp; omega

theorem subA_zero (a : Option Addr) (sz m : Nat) : subA a 0 sz m = a := by
  unfold subA
  split
  · rfl
  · cases a <;> simp [add_zero']
theorem reps_add (z : List Value) : ∀ m n, reps (m + n) z = reps m z ++ reps n z
  | 0, n => by simp [reps]
  | m + 1, n => by rw [show m + 1 + n = (m + n) + 1 by omega, reps, reps_add z m n, reps, List.append_assoc]
theorem reps_drop {z : List Value} {sz : Nat} (hz : z.length = sz) (n k : Nat) : (reps (n + k) z).drop (n * sz) = reps k z := by
  rw [reps_add, List.drop_left']
  rw [reps_length, hz]
theorem reps_at {c : List Value} {sz j : Nat} (hc : c.length = sz) (hj : j < sz) : ∀ (n k : Nat), k < n → (reps n c)[k * sz + j]? = c[j]?
  | 0, k, h => by omega
  | n + 1, 0, _ => by rw [reps, Nat.zero_mul, Nat.zero_add, List.getElem?_append_left (by omega)]
  | n + 1, k + 1, h => by rw [reps, List.getElem?_append_right (by rw [hc, Nat.add_mul]; omega), hc, show (k + 1) * sz + j - sz = k * sz + j by rw [Nat.add_mul]; omega, reps_at hc hj n k (by omega)]
theorem reps_snoc (z : List Value) : ∀ n, reps (n + 1) z = reps n z ++ z
  | 0 => by simp [reps]
  | n + 1 => by
    show z ++ reps (n + 1) z = (z ++ reps n z) ++ z
    rw [reps_snoc z n, List.append_assoc]
/-- Room that is filled, one by one. -/
theorem spl_reps {a c z : List Value} {sz k n : Nat} (hc : c.length = sz) (hz : z.length = sz) (h : k < n) :
    spl (a ++ (reps k c ++ reps (n - k) z)) (a.length + k * sz) c = a ++ (reps (k + 1) c ++ reps (n - (k + 1)) z) := by
  obtain ⟨d, hd⟩ : ∃ d, n - k = d + 1 := ⟨n - k - 1, by omega⟩
  have hl : (a ++ reps k c).length = a.length + k * sz := by rw [List.length_append, reps_length, hc]
  rw [hd, show n - (k + 1) = d by omega, ← List.append_assoc, reps, ← List.append_assoc, spl, ← hl, List.append_assoc (a ++ reps k c), List.take_left', reps_snoc]
  · rw [List.drop_append, List.drop_eq_nil_of_le (by omega), show (a ++ reps k c).length + c.length - (a ++ reps k c).length = c.length by omega, hc, ← hz, List.drop_left']
    · simp
    · rfl
  · rfl
end Go.Vc
/- dunnagehelp over bytes: Own, Plain, Kept, Spoil; slices.Clone. Conditions: those of each contract. -/
namespace Go.Proofs
open Go Go.Vc

/-! ### Own -/
/-! ### Plain, Kept -/
/-! ### Spoil, Clone -/
theorem slices_Clone_byte_byte.spec {s : SV} {x : List UInt8} {w : World} (hs : RdB w s x) (hx : x.length ≤ 140737488351232) :
    CallT [.one .slice] Try.prog F.slices_Clone_byte_byte [.slice s.a s.len s.cap] w fun o w' => OwnB w' w.heap.size o x ∧ Ext w w' ∧ (s.a ≠ none → o.a ≠ none) := by
  refine slices_Clone_byte_byte.vc s w _ ?_
  have hsl := hs.lenB
  cases ha : s.a with
  | none =>
    have hx0 : x = [] := by have := hs.nil ha; rw [hsl] at this; exact List.eq_nil_of_length_eq_zero this
    subst hx0
    exact ⟨Own.nil _ _ _ _, Upd.refl _ _, fun h => absurd rfl h⟩
  | some A =>
    have h0 : OwnB (w.alloc (.cells #[] T.uint8)) w.heap.size ⟨some ⟨w.heap.size, 0, none⟩, 0, 0⟩ [] := Own.new w T.uint8 1 0 [] rfl
    have := app_rd (ty := T.sl_uint8) (K := fun s' w' => OwnB w' w.heap.size s' x ∧ Ext w w' ∧ (some A ≠ none → s'.a ≠ none)) (t := s) appB (ext_alloc w _) h0 (hs.ext (ext_alloc _ _)) (B8_one x) (fun hlt => ?_) ?_
    · rw [ha] at this; exact this
    · simp only [Nat.zero_add] at hlt ⊢
      rw [nextcap_zero hlt]; omega
    · intro s' w' ho hu _ hn
      exact ⟨ho, hu, fun _ => hn (.inl (by simp))⟩
end Go.Proofs
/- The remainders of chapter 02 over the natural numbers: half a step, its powers, products; what turned bits do. Conditions: that the numbers are below 2^32. -/
namespace Go.Crc
def P : Nat := 2197175160
def M : Nat := 4294967295
def one : Nat := 2147483648
def half (c : Nat) : Nat := c / 2 ^^^ (if c % 2 = 1 then P else 0)
def hn : Nat → Nat → Nat | 0, c => c | n + 1, c => hn n (half c)
def xs : Nat → (Nat → Nat) → Nat | 0, _ => 0 | n + 1, f => xs n f ^^^ f n
structure Lin (f : Nat → Nat) : Prop where
  z : f 0 = 0
  x : ∀ a b, f (a ^^^ b) = f a ^^^ f b
theorem xor4 (a b c d : Nat) : (a ^^^ b) ^^^ (c ^^^ d) = (a ^^^ c) ^^^ (b ^^^ d) := by
  rw [Nat.xor_assoc, Nat.xor_assoc, ← Nat.xor_assoc b c d, Nat.xor_comm b c, Nat.xor_assoc c b d]
theorem xor_div2 (a b : Nat) : (a ^^^ b) / 2 = a / 2 ^^^ b / 2 := by
  have := @Nat.xor_div_two_pow a b 1
  simpa using this
theorem xor_mod2 (a b : Nat) : (a ^^^ b) % 2 = (a % 2 + b % 2) % 2 := by
  have := @Nat.xor_mod_two_pow a b 1
  simp at this
  rw [this]
  rcases Nat.mod_two_eq_zero_or_one a with h | h <;> rcases Nat.mod_two_eq_zero_or_one b with h' | h' <;> rw [h, h'] <;> rfl
theorem half_lin : Lin half := by
  refine ⟨rfl, fun a b => ?_⟩
  unfold half
  rw [xor_div2, xor_mod2]
  rcases Nat.mod_two_eq_zero_or_one a with h | h <;> rcases Nat.mod_two_eq_zero_or_one b with h' | h' <;> rw [h, h'] <;> simp
  · exact Nat.xor_assoc _ _ _
  · rw [Nat.xor_assoc, Nat.xor_assoc, Nat.xor_comm P]
  · rw [xor4, Nat.xor_self, Nat.xor_zero]
theorem Lin.id : Lin (fun c => c) := ⟨rfl, fun _ _ => rfl⟩
theorem Lin.comp {f g : Nat → Nat} (hf : Lin f) (hg : Lin g) : Lin (fun c => f (g c)) := ⟨by rw [hg.z, hf.z], fun a b => by rw [hg.x, hf.x]⟩
theorem Lin.add {f g : Nat → Nat} (hf : Lin f) (hg : Lin g) : Lin (fun c => f c ^^^ g c) := ⟨by simp [hf.z, hg.z], fun a b => by simp only [hf.x, hg.x]; rw [xor4]⟩
theorem hn_lin : ∀ n, Lin (hn n)
  | 0 => Lin.id
  | n + 1 => (hn_lin n).comp half_lin
theorem hn_half : ∀ n c, hn n (half c) = half (hn n c)
  | 0, _ => rfl
  | n + 1, c => hn_half n (half c)
theorem hn_add : ∀ m n c, hn (m + n) c = hn m (hn n c)
  | 0, n, c => by rw [Nat.zero_add]; rfl
  | m + 1, n, c => by rw [show m + 1 + n = (m + n) + 1 by omega, hn, hn_add m n, hn, hn_half n]
theorem half_lt {c : Nat} (h : c < 2 ^ 32) : half c < 2 ^ 32 := by
  unfold half
  refine Nat.xor_lt_two_pow (by omega) ?_
  split <;> decide
theorem hn_lt : ∀ (n : Nat) {c : Nat}, c < 2 ^ 32 → hn n c < 2 ^ 32
  | 0, _, h => h
  | n + 1, _, h => hn_lt n (half_lt h)
theorem lin_ext' {f g : Nat → Nat} (hf : Lin f) (hg : Lin g) : ∀ k, (∀ j, j < k → f (2 ^ j) = g (2 ^ j)) → ∀ c, c < 2 ^ k → f c = g c
  | 0, _, c, hc => by
    have : c = 0 := by simpa using hc
    subst this; rw [hf.z, hg.z]
  | k + 1, h, c, hc => by
    have hpos : 0 < 2 ^ k := Nat.pow_pos (by decide)
    have hlt := Nat.mod_lt c hpos
    by_cases hb : c < 2 ^ k
    · exact lin_ext' hf hg k (fun j hj => h j (by omega)) c hb
    · have hd : c = 2 ^ k * 1 + c % 2 ^ k := by
        rw [Nat.pow_succ] at hc
        have h1 : c / 2 ^ k = 1 := by
          apply Nat.div_eq_of_lt_le <;> omega
        have := Nat.div_add_mod c (2 ^ k)
        rw [h1] at this; exact this.symm
      have hx : c = 2 ^ k ^^^ c % 2 ^ k := by
        apply Nat.eq_of_testBit_eq
        intro i
        rw [Nat.testBit_xor]
        conv => lhs; rw [hd, Nat.two_pow_add_eq_or_of_lt hlt, Nat.mul_one]
        rw [Nat.testBit_or, Nat.testBit_two_pow]
        by_cases hi : k = i
        · subst hi
          have : (c % 2 ^ k).testBit k = false := Nat.testBit_lt_two_pow hlt
          simp [this]
        · simp [hi]
      rw [hx, hf.x, hg.x, h k (by omega), lin_ext' hf hg k (fun j hj => h j (by omega)) _ hlt]
theorem lin_ext {f g : Nat → Nat} (hf : Lin f) (hg : Lin g) (h : ∀ j, j < 32 → f (2 ^ j) = g (2 ^ j)) {c : Nat} (hc : c < 2 ^ 32) : f c = g c := lin_ext' hf hg 32 h c hc
theorem div_lin (k : Nat) : Lin (fun c => c / 2 ^ k) := ⟨Nat.zero_div _, fun _ _ => Nat.xor_div_two_pow⟩
theorem mod_lin (k : Nat) : Lin (fun c => c % 2 ^ k) := ⟨Nat.zero_mod _, fun _ _ => Nat.xor_mod_two_pow⟩
/-- Four steps at once. -/
theorem hn4 {c : Nat} (h : c < 2 ^ 32) : hn 4 c = c / 16 ^^^ hn 4 (c % 16) := by
  refine lin_ext (f := hn 4) (g := fun c => c / 2 ^ 4 ^^^ hn 4 (c % 2 ^ 4)) (hn_lin 4) ((div_lin 4).add ((hn_lin 4).comp (mod_lin 4))) ?_ h
  decide +kernel

/-! ### sums -/
theorem xs_congr {n : Nat} {f g : Nat → Nat} (h : ∀ i, i < n → f i = g i) : xs n f = xs n g := by
  induction n with
  | zero => rfl
  | succ n ih => rw [xs, xs, ih (fun i hi => h i (by omega)), h n (by omega)]
theorem xs_zero {n : Nat} {f : Nat → Nat} (h : ∀ i, i < n → f i = 0) : xs n f = 0 := by
  induction n with
  | zero => rfl
  | succ n ih => rw [xs, ih (fun i hi => h i (by omega)), h n (by omega)]; rfl
theorem xs_xor (n : Nat) (f g : Nat → Nat) : xs n (fun i => f i ^^^ g i) = xs n f ^^^ xs n g := by
  induction n with
  | zero => simp [xs]
  | succ n ih => rw [xs, xs, xs, ih, xor4]
theorem Lin.xs {f : Nat → Nat} (hf : Lin f) (n : Nat) (g : Nat → Nat) : f (xs n g) = Go.Crc.xs n (fun i => f (g i)) := by
  induction n with
  | zero => exact hf.z
  | succ n ih => rw [Go.Crc.xs, Go.Crc.xs, hf.x, ih]
/-! ### products -/
theorem Lin.sum {g : Nat → Nat → Nat} (h : ∀ i, Lin (g i)) (n : Nat) : Lin (fun c => Go.Crc.xs n fun i => g i c) := by
  refine ⟨xs_zero fun i _ => (h i).z, fun a b => ?_⟩
  rw [← xs_xor]
  exact xs_congr fun i _ => (h i).x a b
def X (k : Nat) : Nat := hn k one
theorem pow_X : ∀ j, j < 32 → 2 ^ j = X (31 - j) := by decide +kernel
/-! ### the sum of bytes -/
def raw (s : Nat) : List UInt8 → Nat | [] => s | c :: r => raw (hn 8 (s ^^^ c.toNat)) r
def more (sum : Nat) (l : List UInt8) : Nat := raw (sum ^^^ M) l ^^^ M
theorem raw_lt : ∀ (l : List UInt8) {s : Nat}, s < 2 ^ 32 → raw s l < 2 ^ 32
  | [], _, h => h
  | _ :: r, _, h => raw_lt r (hn_lt 8 (Nat.xor_lt_two_pow h (Nat.lt_of_lt_of_le (UInt8.toNat_lt _) (by decide))))
theorem more_lt {s : Nat} (h : s < 2 ^ 32) (l : List UInt8) : more s l < 2 ^ 32 := Nat.xor_lt_two_pow (raw_lt l (Nat.xor_lt_two_pow h (by decide))) (by decide)
theorem raw_append : ∀ (a b : List UInt8) (s : Nat), raw s (a ++ b) = raw (raw s a) b
  | [], _, _ => rfl
  | c :: r, b, s => raw_append r b _
theorem raw_snoc (a : List UInt8) (c : UInt8) (s : Nat) : raw s (a ++ [c]) = hn 8 (raw s a ^^^ c.toNat) := by rw [raw_append]; rfl
/-- What comes ahead, and the bytes themselves. -/
theorem raw_split : ∀ (l : List UInt8) (s : Nat), raw s l = hn (8 * l.length) s ^^^ raw 0 l
  | [], s => by simp [raw, hn]
  | c :: r, s => by
    rw [raw, raw_split r, raw, raw_split r (hn 8 (0 ^^^ c.toNat)), Nat.zero_xor, (hn_lin 8).x, (hn_lin _).x, List.length_cons, show 8 * (r.length + 1) = 8 * r.length + 8 by omega, hn_add, Nat.xor_assoc]
end Go.Crc
/- crc and the document's sums: their contracts. Conditions: those of each contract. -/
namespace Go.Proofs
open Go Go.Vc Go.Crc
theorem u32lt {n : Nat} (h : n < 2 ^ 32) : n < 2 ^ IntKind.u32.bits := h
theorem half_val {c : Nat} (hc : c < 2 ^ 32) : (c % 2 = 1 → bxor .u32 (shr .u32 (c : Int) 1) 2197175160 = ((half c : Nat) : Int)) ∧ (c % 2 ≠ 1 → shr .u32 (c : Int) 1 = ((half c : Nat) : Int)) ∧ band .u32 (c : Int) 1 = ((c % 2 : Nat) : Int) := by
  have h1 : shr .u32 (c : Int) 1 = ((c / 2 : Nat) : Int) := by
    have := shr_nat (k := .u32) (a := c) (b := 1) (by decide)
    simpa using this
  have h2 : band .u32 (c : Int) ((1 : Nat) : Int) = ((c &&& 1 : Nat) : Int) := band_nat rfl (u32lt hc) (by decide)
  have h3 : c &&& 1 = c % 2 := Nat.and_one_is_mod c
  have h4 : bxor .u32 ((c / 2 : Nat) : Int) ((P : Nat) : Int) = ((c / 2 ^^^ P : Nat) : Int) := bxor_nat rfl (u32lt (by omega)) (by decide)
  refine ⟨fun h => ?_, fun h => ?_, ?_⟩
  · rw [h1, half, if_pos h]; exact h4
  · rw [h1, half, if_neg h, Nat.xor_zero]
  · rw [← h3]; exact h2
theorem crc_half.spec {c : Nat} (hc : c < 2 ^ 32) (w : World) : CallT [.one (.int .u32)] Try.prog F.crc_half [.int .u32 c] w fun r w' => r = half c ∧ w = w' := by
  refine crc_half.vc c w _ ?_
  obtain ⟨h1, h2, h3⟩ := half_val hc
  rw [h3]
  refine cnd_bne (fun h => ⟨h1 (by omega), rfl⟩) (fun h => ⟨h2 (by omega), rfl⟩)
theorem bx {a b : Nat} (ha : a < 2 ^ 32) (hb : b < 2 ^ 32) : bxor .u32 (a : Int) (b : Int) = ((a ^^^ b : Nat) : Int) := bxor_nat rfl (u32lt ha) (u32lt hb)
def qrow (i : Nat) : List Value := (List.range 16).map fun k => .int .u32 ((if k < i then Crc.hn 4 k else 0 : Nat) : Int)
theorem qrow_set (i : Nat) (h : i < 16) : (qrow i).set i (.int .u32 ((Crc.hn 4 i : Nat) : Int)) = qrow (i + 1) := by
  unfold qrow
  apply List.ext_getElem?
  intro k
  rw [List.getElem?_set]
  simp only [List.getElem?_map, List.length_map, List.length_range]
  by_cases hk : i = k
  · subst hk
    simp [h]
  · rw [if_neg hk]
    by_cases hk16 : k < 16
    · simp only [List.getElem?_range hk16, Option.map_some]
      congr 3
      by_cases hki : k < i
      · rw [if_pos hki, if_pos (by omega)]
      · rw [if_neg hki, if_neg (by omega)]
    · rw [List.getElem?_eq_none (by simp; omega)]; rfl
theorem qrow_get (i : Nat) (h : i < 16) : (qrow 16)[i]? = some (.int .u32 ((Crc.hn 4 i : Nat) : Int)) := by
  simp [qrow, h]
theorem nib {s : Nat} (hs : s < 2 ^ 32) : band .u32 (s : Int) 15 = ((s % 16 : Nat) : Int) := by
  have h2 : band .u32 (s : Int) ((15 : Nat) : Int) = ((s &&& 15 : Nat) : Int) := band_nat rfl (u32lt hs) (by decide)
  have h3 : s &&& 15 = s % 16 := Nat.and_two_pow_sub_one_eq_mod s 4
  rw [← h3]; exact h2
theorem shr4 {s : Nat} : shr .u32 (s : Int) 4 = ((s / 16 : Nat) : Int) := by
  have := shr_nat (k := .u32) (a := s) (b := 4) (by decide)
  simpa using this
theorem crc_More.spec {w : World} {s : SV} {l : List UInt8} (hs : RdB w s l) (hl : l.length < 2 ^ 62) {n : Nat} (hn0 : n < 2 ^ 32) :
    CallT [.one (.int .u32)] Try.prog F.crc_More [.int .u32 n, .slice s.a s.len s.cap] w fun r w' => r = more n l ∧ Ext w w' := by
  refine crc_More.vc n s w _ ?_
  have hsl := hs.lenB
  have hM : n ^^^ M < 2 ^ 32 := Nat.xor_lt_two_pow hn0 (by decide)
  refine ⟨fun m x w' => ∃ i : Nat, x = (i : Int) ∧ i ≤ 16 ∧ m = 16 - i ∧ Ext w w' ∧ w'.heap[w.heap.size]? = some (.cells (qrow i).toArray T.a16_uint32 (0, 0)), ⟨_, 0, rfl, by omega, rfl, ext_alloc _ _, blk_new _ _⟩, ?_⟩
  rintro m _ j w1 ⟨i, rfl, hi, rfl, he, hb⟩
  refine cnd_dec (fun hlt => ?_) (fun hge => ?_)
  · have hi16 : i < 16 := by omega
    refine ⟨fun q x w' => ∃ k : Nat, x = (((Crc.hn k i : Nat) : Int), (k : Int)) ∧ k ≤ 4 ∧ q = 4 - k ∧ w1 = w', ⟨_, 0, by rw [u32_id (by omega) (by omega)]; rfl, by omega, rfl, rfl⟩, ?_⟩
    rintro q _ j' _ ⟨k, rfl, hk, rfl, rfl⟩
    dsimp only
    refine cnd_dec (fun hlt' => ?_) (fun hge' => ?_)
    · refine CallT.mono (crc_half.spec (Crc.hn_lt k (by omega)) _) ?_
      rintro _ _ ⟨rfl, rfl⟩
      exact ⟨4 - (k + 1), by omega, k + 1, by rw [i64_id (by omega) (by omega), ← Crc.hn_half, Crc.hn]; rfl, by omega, rfl, rfl⟩
    · have : k = 4 := by omega
      subst this
      simp only [Int.toNat_natCast, Nat.mul_one, add_mk, Nat.zero_add]
      refine ⟨by omega, by omega, set_ok hb (by simp [qrow]; omega) ⟨16 - (i + 1), by omega, i + 1, by rw [i64_id (by omega) (by omega)]; rfl, by omega, rfl, ?_, ?_⟩⟩
      · exact he.set (p := ⟨w.heap.size, i, none⟩) (fun h => by simp at h) _
      · rw [blk_set hb, List.setIfInBounds_toArray, qrow_set i hi16]
  · have : i = 16 := by omega
    subst this
    have hmax : (if IntKind.u32.signed = true then (-1 : Int) else IntKind.u32.max) = ((M : Nat) : Int) := rfl
    rw [hmax, bx (a := M) (b := n) (by decide) hn0, Nat.xor_comm]
    have hq : ∀ k, k < 16 → w1.cell? ⟨w.heap.size, k, none⟩ = some (.int .u32 ((Crc.hn 4 k : Nat) : Int)) := fun k hk => by
      rw [cell_blk hb, List.getElem?_toArray, qrow_get k hk]
    refine ⟨fun m x w' => ∃ i : Nat, x = (((raw (n ^^^ M) (l.take i) : Nat) : Int), (i : Int)) ∧ i ≤ l.length ∧ m = l.length - i ∧ w1 = w', ⟨_, 0, rfl, by omega, rfl, rfl⟩, ?_⟩
    rintro m _ j _ ⟨i, rfl, hi, rfl, rfl⟩
    dsimp only
    have hr := raw_lt (l.take i) hM
    refine cnd_dec (fun hlt => ?_) (fun hge => ?_)
    · have hil : i < l.length := by omega
      have hbt := (l[i]).toNat_lt
      refine ⟨by omega, by omega, SV.getB hs hil fun A hA => ⟨(l[i]).toNat, (hs.ext he).cellB (List.getElem?_eq_getElem hil) hA, ?_⟩⟩
      have hx : raw (n ^^^ M) (l.take i) ^^^ (l[i]).toNat < 2 ^ 32 := Nat.xor_lt_two_pow hr (by omega)
      have hsn : raw (n ^^^ M) (l.take (i + 1)) = Crc.hn 8 (raw (n ^^^ M) (l.take i) ^^^ (l[i]).toNat) := by
        rw [List.take_add_one, List.getElem?_eq_getElem hil, Option.toList_some, raw_snoc]
      rw [u32_id (x := (l[i]).toNat) (by omega) (by omega), bx hr (by omega)]
      generalize raw (n ^^^ M) (l.take i) ^^^ (l[i]).toNat = c at hx hsn
      have h16 : ∀ c : Nat, c < 2 ^ 32 → Crc.hn 4 (c % 16) < 2 ^ 32 := fun c _ => Crc.hn_lt 4 (by omega)
      rw [nib hx, shr4]
      simp only [Int.toNat_natCast, Nat.mul_one, add_mk, Nat.zero_add]
      refine ⟨by omega, by omega, _, hq _ (by omega), ?_⟩
      rw [bx (a := c / 16) (by omega) (h16 c hx), ← Crc.hn4 hx]
      have hx2 := Crc.hn_lt 4 hx
      rw [nib hx2, shr4]
      simp only [Int.toNat_natCast]
      refine ⟨by omega, by omega, _, hq _ (by omega), ?_⟩
      rw [bx (a := Crc.hn 4 c / 16) (by omega) (h16 _ hx2), ← Crc.hn4 hx2, ← Crc.hn_add]
      exact ⟨l.length - (i + 1), by omega, i + 1, by rw [i64_id (by omega) (by omega), hsn]; rfl, by omega, rfl, trivial⟩
    · have : i = l.length := by omega
      subst this
      rw [List.take_length] at hr ⊢
      exact ⟨by rw [bx (by decide) hr, Nat.xor_comm]; rfl, he⟩
theorem crc_Sum.spec {w : World} {s : SV} {l : List UInt8} (hs : RdB w s l) (hl : l.length < 2 ^ 62) :
    CallT [.one (.int .u32)] Try.prog F.crc_Sum [.slice s.a s.len s.cap] w fun r w' => r = more 0 l ∧ Ext w w' := by
  refine crc_Sum.vc s w _ ?_
  have c := crc_More.spec hs hl (n := 0) (by decide)
  exact CallT.mono c fun _ _ h => h
end Go.Proofs
/- word: the walk over bytes; word.Zero; ReadVar, and the document's Var and ReadVar (r1's texts Word and WordRead without what this seat lacks). Conditions: those of each contract. -/
namespace Go.Proofs
open Go Go.Vc

/-- The walk: S i holds ahead of the i-th byte, E i behind the last that do was told. -/
theorem word_walk_over.spec {M : Nat → Prop} {w : World} {x0 : Value} {s : SV} {l : List UInt8} (S E : Nat → World → Prop) (i0 : Nat)
    (hs : RdB w s l) (hl : l.length < 2 ^ 62) (hM0 : ¬ M w.heap.size) (hM : l ≠ [] → ∀ b, s.blk b → ¬ M b)
    (h0 : ∀ w', Ext w w' → S i0 w')
    (hstep : ∀ i b w', l[i]? = some b → Upd M w w' → w.heap.size < w'.heap.size → S i w' →
      callVal [.one .bool] Try.prog x0 [.int .u8 b.toNat] w'.drew fun r w2 => Upd M w' w2 ∧ cnd r (S (i + 1) w2) (E (i + 1) w2)) :
    CallT [.one (.int .i64), .one .bool] Try.prog F.word_walk_over [.agg #[x0], .slice s.a s.len s.cap, .int .i64 i0] w fun r w' =>
      Upd M w w' ∧ ∃ i : Nat, r.1 = i ∧ cnd r.2 (i = max i0 l.length ∧ S i w') (i ≤ l.length ∧ E i w') := by
  refine word_walk_over.vc x0 s i0 w _ ?_
  refine ⟨fun n x w' => ∃ i : Nat, x = i ∧ (i = i0 ∨ i ≤ l.length) ∧ i0 ≤ i ∧ n = l.length - i ∧ Upd M (w.alloc (.cells #[x0] T.word_walk)) w' ∧ S i w',
    ⟨_, i0, rfl, .inl rfl, Nat.le_refl _, rfl, Upd.refl _ _, h0 _ (ext_alloc _ _)⟩, ?_⟩
  rintro n x j w' ⟨i, rfl, hi, hle, rfl, hu, hS⟩
  have hlen := hs.lenB
  have hu0 : Upd M w w' := ((ext_alloc w _).to M).trans hu fun _ _ h => h
  refine cnd_dec (fun hlt => ?_) (fun hge => ?_)
  · have hil : i < l.length := by omega
    obtain ⟨b, hb⟩ : ∃ b, l[i]? = some b := ⟨_, List.getElem?_eq_getElem hil⟩
    have hw1 : IntKind.i64.wrap ((i : Int) + 1) = ((i + 1 : Nat) : Int) := by rw [i64_id] <;> omega
    have hw2 : IntKind.i64.wrap (((i + 1 : Nat) : Int) - 1) = (i : Int) := by rw [i64_id] <;> omega
    have hcl : w'.drew.cell? (Addr.add ⟨w.heap.size, 0, none⟩ 0) = some x0 := by
      have := hu.get (blk_new w (.cells #[x0] T.word_walk)) hM0
      rw [add_mk]
      exact cell_blk this
    refine ⟨x0, hcl, ?_⟩
    rw [hw1, hw2]
    refine ⟨by omega, by omega, SV.getB hs hil fun A hA => ⟨b.toNat, ?_, ?_⟩⟩
    · rw [Int.toNat_natCast]
      exact ((hs.upd hu0 (hM (List.ne_nil_of_length_pos (by omega)))).drew).cellB hb hA
    · have hsz : w.heap.size < w'.heap.size := by have := hu.size; simp at this; omega
      refine callVal.mono (hstep i b w' hb hu0 hsz hS) ?_
      rintro r w2 ⟨hu2, hr⟩
      refine cnd_not (fun hf => ?_) (fun ht => ?_)
      · subst hf
        exact ⟨hu0.trans hu2 fun _ _ h => h, i + 1, rfl, by omega, hr⟩
      · subst ht
        exact ⟨l.length - (i + 1), by omega, i + 1, rfl, by omega, by omega, rfl, hu.trans hu2 fun _ _ h => h, hr⟩
  · exact ⟨hu0, i, rfl, by omega, hS⟩

theorem walk_mk {w : World} {T : TypeId} {z f : Value} {K : Value → World → Prop} (hk : ∀ w1, Ext w w1 → w1.heap.size = w.heap.size + 1 → w1.drawn = w.drawn → K f w1) :
    canSt (w.alloc (.cells #[z] T)) ⟨w.heap.size, 0, none⟩ 1 ∧ (let w1 := setCells (w.alloc (.cells #[z] T)) ⟨w.heap.size, 0, none⟩ 0 [f]; ∃ x, cellsAt w1 ⟨w.heap.size, 0, none⟩ [x] ∧ K x w1) := by
  have hb := blk_new w (.cells [z].toArray T)
  refine ⟨canSt_blk hb (by simp), f, ?_, hk _ ?_ ?_ ?_⟩
  · exact cellsAt_blk (setCells_blk (o := 0) [f] _ 0 _ hb (by simp)) (by simp [spl])
  · exact (ext_alloc w _).setCells (p := ⟨w.heap.size, 0, none⟩) (fun h => by simp at h) 0 [f]
  · rw [setCells_size]; simp
  · rfl

theorem walk_mkd {w : World} {T : TypeId} {z f : Value} {K : Value → World → Prop} (hk : ∀ w1, Ext w w1 → w1.heap.size = w.heap.size + 1 → w1.drawn = w.drawn → K f w1) :
    canSt (w.alloc (.cells #[z] T)) ⟨w.heap.size, 0, none⟩ 1 ∧ (let w1 := setCells (w.alloc (.cells #[z] T)) ⟨w.heap.size, 0, none⟩ 0 [f]; ∃ x, cellsAt w1.drew ⟨w.heap.size, 0, none⟩ [x] ∧ K x w1) :=
  walk_mk hk
/-! ### word.Zero -/
theorem word_Zero_1.spec (n : Int) (w : World) : CallT [.one .bool] Try.prog F.word_Zero_1 [.int .u8 n] w fun r w' => r = (n == 0) ∧ w = w' :=
  word_Zero_1.vc n w _ ⟨rfl, rfl⟩
def allZ (l : List UInt8) : Bool := l.all (· == 0)
theorem word_Zero.spec {w : World} {s : SV} {l : List UInt8} (hs : RdB w s l) (hl : l.length < 2 ^ 62) :
    CallT [.one .bool] Try.prog F.word_Zero [.slice s.a s.len s.cap] w fun r w' => r = allZ l ∧ Ext w w' := by
  refine word_Zero.vc s w _ ?_
  refine walk_mk (K := fun x w1 => CallT _ _ _ [.agg #[x], _, _] w1 _) ?_
  intro w1 h1 h1s _
  refine CallT.mono (word_walk_over.spec (M := fun _ => False) (fun i _ => allZ (l.take i) = true) (fun i _ => allZ l = false) 0 (hs.ext h1) hl id (fun _ _ _ => id) (fun _ _ => rfl) ?_) ?_
  · intro i b w' hb hu _ hS
    refine CallT.mono (word_Zero_1.spec b.toNat w'.drew) ?_
    rintro r w2 ⟨rfl, rfl⟩
    refine ⟨(Upd.refl _ _).drew, cnd_beq (fun hz => ?_) (fun hz => ?_)⟩
    · have : b = 0 := by rw [← UInt8.toNat_inj]; simpa using hz
      subst this
      rw [List.take_add_one, hb]
      simp only [allZ, List.all_append] at hS ⊢
      simp [hS]
    · have : b ≠ 0 := by rintro rfl; exact hz rfl
      simp only [allZ, List.all_eq_false]
      exact ⟨b, List.mem_of_getElem? hb, by simpa using this⟩
  · rintro ⟨i, r⟩ w' ⟨hu, k, hk, hr⟩
    refine ⟨?_, h1.trans hu fun _ _ h => h⟩
    cases r with
    | true => obtain ⟨rfl, hr⟩ := hr; simpa using hr.symm
    | false => exact hr.2.symm

/-! ### awake -/

/-- What bytes are as a number, from the n-th on, v being that of those ahead: the number, how many bytes, an error. -/
def rvGo (n v : Nat) : List UInt8 → Nat × Nat × Int
  | [] => (0, 0, 10)
  | c :: r => if n = 9 ∧ 1 < c.toNat ∨ 0 < n ∧ c.toNat = 0 then (0, 0, 11)
    else if c.toNat < 128 then (v + c.toNat % 128 * 128 ^ n, n + 1, 0) else rvGo (n + 1) (v + c.toNat % 128 * 128 ^ n) r
def readVar (l : List UInt8) (at_ : Int) : Int × Int × Int :=
  if at_ < 0 then (0, 0, 1) else (match rvGo 0 0 (l.drop at_.toNat) with | (v, n, e) => if e = 0 then (v, at_ + n, 0) else (0, 0, e))

theorem or_add {v x n : Nat} (h : v < 128 ^ n) : v ||| (x * 128 ^ n) = v + x * 128 ^ n := by
  have e : 128 ^ n = 2 ^ (7 * n) := by rw [Nat.pow_mul]
  rw [e] at h ⊢
  rw [Nat.mul_comm x, Nat.or_comm, ← Nat.two_pow_add_eq_or_of_lt h]; omega
theorem rv_bits {v n c : Nat} (hv : v < 128 ^ n) (hn : n ≤ 9) (hc : c < 256) (hn9 : n = 9 → c ≤ 1) :
    bor .u64 (v : Int) (shl .u64 (IntKind.u64.wrap (band .u8 (c : Int) 127)) (((7 * n : Nat)) : Int)) = ((v + c % 128 * 128 ^ n : Nat) : Int) ∧ v + c % 128 * 128 ^ n < 2 ^ 64 ∧ v + c % 128 * 128 ^ n < 128 ^ (n + 1) := by
  have hb : band .u8 (c : Int) ((127 : Nat) : Int) = ((c &&& 127 : Nat) : Int) := band_nat rfl (by simpa [IntKind.bits] using hc) (by decide)
  have h127 : c &&& 127 = c % 128 := Nat.and_two_pow_sub_one_eq_mod c 7
  have hw : IntKind.u64.wrap (((c % 128 : Nat)) : Int) = ((c % 128 : Nat) : Int) := u64_id (by omega) (by omega)
  have hb' : band .u8 (c : Int) 127 = ((c % 128 : Nat) : Int) := by rw [← h127]; exact hb
  rw [hb', hw, shl_nat (k := .u64) rfl (by simp only [IntKind.bits]; omega)]
  have e : 128 ^ n = 2 ^ (7 * n) := by rw [Nat.pow_mul]
  have hpos : 0 < 128 ^ n := Nat.pow_pos (by decide)
  have hlt : v + c % 128 * 128 ^ n < 128 ^ (n + 1) := by
    rw [Nat.pow_succ]
    have : c % 128 ≤ 127 := by omega
    have := Nat.mul_le_mul_right (128 ^ n) this
    omega
  have h64 : v + c % 128 * 128 ^ n < 2 ^ 64 := by
    by_cases h9 : n = 9
    · subst h9
      have := hn9 rfl
      have : c % 128 ≤ 1 := by omega
      omega
    · have : 128 ^ (n + 1) ≤ 128 ^ 9 := Nat.pow_le_pow_right (by decide) (by omega)
      omega
  have hm : c % 128 * 2 ^ (7 * n) % 2 ^ IntKind.u64.bits = c % 128 * 128 ^ n := by
    rw [← e]
    apply Nat.mod_eq_of_lt
    simp only [IntKind.bits]; omega
  rw [hm, bor_nat (k := .u64) rfl (by simp only [IntKind.bits]; omega) (by simp only [IntKind.bits]; omega), or_add hv]
  exact ⟨rfl, h64, hlt⟩

set_option maxRecDepth 4000 in
theorem dunnageref01_ReadVar.spec {w : World} {s : SV} {l : List UInt8} (hs : RdB w s l) (hl : l.length ≤ 140737488351232) (a : Int) (ha : a ≤ 9223372036854775807) :
    CallT [.one (.int .u64), .one (.int .i64), .one (.int .i64)] Try.prog F.dunnageref01_ReadVar [.slice s.a s.len s.cap, .int .i64 a] w fun r w' => r = readVar l a ∧ w = w' := by
  refine dunnageref01_ReadVar.vc s a w _ ?_
  refine cnd_dec (fun h => ⟨by rw [readVar, if_pos h], rfl⟩) (fun h0 => ?_)
  obtain ⟨at_, rfl⟩ : ∃ n : Nat, a = n := ⟨a.toNat, by omega⟩
  have hsl := hs.lenB
  have hrd : readVar l at_ = (match rvGo 0 0 (l.drop at_) with | (v, n, e) => if e = 0 then ((v : Int), (at_ : Int) + n, (0 : Int)) else (0, 0, e)) := by
    rw [readVar, if_neg h0, Int.toNat_natCast]
  refine ⟨fun m x w' => ∃ n v : Nat, x = ((v : Int), (n : Int)) ∧ n ≤ 9 ∧ v < 128 ^ n ∧ m = 10 - n ∧ w = w' ∧ rvGo 0 0 (l.drop at_) = rvGo n v (l.drop (at_ + n)), ⟨10, 0, 0, rfl, by omega, by decide, rfl, rfl, rfl⟩, ?_⟩
  rintro m _ j _ ⟨n, v, rfl, hn, hv, rfl, rfl, hrv⟩
  dsimp only
  refine cnd_dec (fun _ => ?_) (fun h => absurd (by omega) h)
  refine ⟨fun _ w' => w = w' ∧ at_ + n < l.length, ?_, ?_⟩
  · have short : l.length ≤ at_ + n → (0, 0, 10) = readVar l at_ ∧ w = w := fun h => by
      rw [List.drop_eq_nil_of_le h] at hrv
      rw [hrd, hrv]; exact ⟨rfl, rfl⟩
    refine cnd_dec (fun h => short (by omega)) (fun h => ?_)
    have h7 : IntKind.i64.wrap ((at_ : Int) + (n : Int)) = ((at_ + n : Nat) : Int) := by rw [i64_id] <;> omega
    rw [h7]
    exact cnd_dec (fun h => short (by omega)) (fun h => ⟨rfl, by omega⟩)
  · rintro _ _ _ ⟨rfl, hlt⟩
    have h7 : IntKind.i64.wrap ((at_ : Int) + (n : Int)) = ((at_ + n : Nat) : Int) := by rw [i64_id] <;> omega
    rw [h7, Int.toNat_natCast]
    refine ⟨by omega, by omega, SV.getB hs hlt fun A hA => ⟨(l[at_ + n]).toNat, hs.cellB (List.getElem?_eq_getElem hlt) hA, ?_⟩⟩
    rw [List.drop_eq_getElem_cons hlt, rvGo] at hrv
    generalize l[at_ + n] = b at hrv ⊢
    have bad : (n = 9 ∧ 1 < b.toNat ∨ 0 < n ∧ b.toNat = 0) → (0, 0, 11) = readVar l at_ ∧ w = w := fun hc => by
      rw [if_pos hc] at hrv
      rw [hrd, hrv]; exact ⟨rfl, rfl⟩
    refine ⟨fun _ w2' => w = w2' ∧ ¬ (n = 9 ∧ 1 < b.toNat ∨ 0 < n ∧ b.toNat = 0), ?_, ?_⟩
    · refine cnd_beq (fun h9 => cnd_dec (fun hg => bad (.inl ⟨by omega, by omega⟩)) (fun hng => cnd_dec (fun hp => cnd_beq (fun hz => bad (.inr ⟨by omega, by omega⟩)) (fun hz => ⟨rfl, by omega⟩)) (fun hp => ⟨rfl, by omega⟩)))
        (fun h9 => cnd_dec (fun hp => cnd_beq (fun hz => bad (.inr ⟨by omega, by omega⟩)) (fun hz => ⟨rfl, by omega⟩)) (fun hp => ⟨rfl, by omega⟩))
    · rintro _ _ _ ⟨rfl, hc⟩
      rw [if_neg hc] at hrv
      obtain ⟨q1, q2, q3⟩ := rv_bits hv hn b.toNat_lt (by omega)
      have h8 : IntKind.u64.wrap (7 * IntKind.u64.wrap (n : Int)) = ((7 * n : Nat) : Int) := by rw [u64_id (x := n) (by omega) (by omega), u64_id] <;> omega
      rw [h8]
      refine And.intro (by omega) ?_
      rw [q1]
      have hlt0 : b.toNat < 128 ∨ ¬ b.toNat < 128 := by omega
      rcases hlt0 with hlt' | hlt'
      · refine cnd_pos (decide_eq_true (by omega)) ?_
        rw [if_pos (by omega)] at hrv
        refine ⟨?_, rfl⟩
        rw [hrd, hrv, i64_id (by omega) (by omega)]
        simp; omega
      · refine cnd_neg (decide_eq_false (by omega)) ?_
        rw [if_neg (by omega)] at hrv
        refine ⟨10 - (n + 1), by omega, n + 1, _, by rw [i64_id (x := (n : Int) + 1) (by omega) (by omega)]; rfl, ?_, q3, rfl, rfl, hrv⟩
        by_cases h9 : n = 9 <;> omega

/-! ### Text, ReadText -/
theorem rvGo_ok : ∀ (l : List UInt8) (n v : Nat) {v' n' : Nat}, n ≤ 9 → v < 128 ^ n → rvGo n v l = (v', n', 0) → n < n' ∧ n' ≤ n + l.length ∧ v' < 2 ^ 64
  | [], n, v, v', n', _, _, h => by simp [rvGo] at h
  | c :: r, n, v, v', n', hn, hv, h => by
    rw [rvGo] at h
    split at h
    · simp at h
    · rename_i hc
      obtain ⟨_, q2, q3⟩ := rv_bits hv hn c.toNat_lt (by omega)
      split at h
      · simp only [Prod.mk.injEq, and_true] at h
        obtain ⟨rfl, rfl⟩ := h
        exact ⟨by omega, by simp, q2⟩
      · have := rvGo_ok r (n + 1) _ (by by_cases h9 : n = 9 <;> omega) q3 h
        simp only [List.length_cons]
        omega
theorem readVar_ok {l : List UInt8} {a v n : Int} (h : readVar l a = (v, n, 0)) : ∃ (i j u : Nat), a = i ∧ n = j ∧ v = u ∧ i < j ∧ j ≤ l.length ∧ u < 2 ^ 64 := by
  unfold readVar at h
  split at h
  · simp at h
  · rename_i ha
    revert h
    rcases hq : rvGo 0 0 (l.drop a.toNat) with ⟨v', n', e⟩
    intro h
    dsimp only at h
    split at h
    · rename_i he
      subst he
      obtain ⟨h1, h2, h3⟩ := rvGo_ok _ 0 0 (by omega) (by decide) hq
      simp only [Prod.mk.injEq, and_true] at h
      obtain ⟨rfl, rfl⟩ := h
      rw [List.length_drop] at h2
      exact ⟨a.toNat, a.toNat + n', v', by omega, by omega, rfl, by omega, by omega, h3⟩
    · rename_i he
      simp only [Prod.mk.injEq] at h
      exact absurd h.2.2 he
end Go.Proofs
/- word.Put, word.Get, and the document's. Conditions: those of each contract. -/
namespace Go.Proofs
open Go Go.Vc

def leB (n v : Nat) : List UInt8 := (List.range n).map fun i => UInt8.ofNat (v / 256 ^ i)
theorem leB_succ (n v : Nat) : leB (n + 1) v = leB n v ++ [UInt8.ofNat (v / 256 ^ n)] := by simp [leB, List.range_succ]
theorem leB_len (n v : Nat) : (leB n v).length = n := by simp [leB]
def leV : List UInt8 → Nat | [] => 0 | c :: r => c.toNat + 256 * leV r
theorem leV_snoc (a : List UInt8) (c : UInt8) : leV (a ++ [c]) = leV a + c.toNat * 256 ^ a.length := by
  induction a with
  | nil => simp [leV]
  | cons x r ih => simp only [List.cons_append, leV, ih, List.length_cons, Nat.pow_succ]; rw [Nat.mul_add, ← Nat.add_assoc, Nat.mul_left_comm 256, Nat.mul_comm (256 ^ r.length)]
theorem leV_lt (a : List UInt8) : leV a < 256 ^ a.length := by
  induction a with
  | nil => simp [leV]
  | cons x r ih => simp only [leV, List.length_cons, Nat.pow_succ]; have := x.toNat_lt; omega
theorem leV_leB : ∀ (n v : Nat), leV (leB n v) = v % 256 ^ n
  | 0, v => by simp [leB, leV, Nat.mod_one]
  | n + 1, v => by
    rw [leB_succ, leV_snoc, leV_leB n v, leB_len, Nat.pow_succ, Nat.mod_mul]
    simp [Nat.mul_comm]
theorem leB_cons (n v : Nat) : leB (n + 1) v = UInt8.ofNat v :: leB n (v / 256) := by
  simp only [leB, List.range_succ_eq_map, List.map_cons, List.map_map, Nat.pow_zero, Nat.div_one]
  congr 1
  apply List.map_congr_left
  intro i _
  simp only [Function.comp, Nat.pow_succ, Nat.div_div_eq_div_mul, Nat.mul_comm]
theorem leB_leV (a : List UInt8) : leB a.length (leV a) = a := by
  induction a with
  | nil => rfl
  | cons c r ih =>
    have := c.toNat_lt
    rw [List.length_cons, leB_cons, leV, show (c.toNat + 256 * leV r) / 256 = leV r by omega, ih]
    congr 1
    rw [← UInt8.toNat_inj]; simp
def getB (l : List UInt8) (a n : Int) : Int × Int :=
  if n < 1 ∨ n > 8 ∨ a < 0 then (0, 1) else if a > l.length ∨ (l.length : Int) - a < n then (0, 10) else ((leV ((l.drop a.toNat).take n.toNat) : Nat), 0)
theorem pow256 (n : Nat) : 256 ^ n = 2 ^ (8 * n) := by rw [Nat.pow_mul]
theorem or_add' {v x n : Nat} (h : v < 256 ^ n) : v ||| (x * 256 ^ n) = v + x * 256 ^ n := by
  rw [pow256] at h ⊢
  rw [Nat.mul_comm x, Nat.or_comm, ← Nat.two_pow_add_eq_or_of_lt h]; omega
theorem pow256_le {i : Nat} (h : i ≤ 7) : 256 ^ (i + 1) ≤ 2 ^ 64 := by
  have : 256 ^ (i + 1) ≤ 256 ^ 8 := Nat.pow_le_pow_right (by decide) (by omega)
  omega
theorem word_Get.spec {w : World} {s : SV} {l : List UInt8} (hs : RdB w s l) (hc : s.len ≤ s.cap) (hl : l.length ≤ 140737488351240) {a n : Int} (ha : -9223372036854775808 ≤ a ∧ a ≤ 9223372036854775807) (hn : -9223372036854775808 ≤ n ∧ n ≤ 9223372036854775807) :
    CallT [.one (.int .u64), .one (.int .i64)] Try.prog F.word_Get [.slice s.a s.len s.cap, .int .i64 a, .int .i64 n] w fun r w' => r = getB l a n ∧ Ext w w' := by
  refine word_Get.vc s a n w _ ?_
  have hsl := hs.lenB
  refine ⟨fun _ w' => w = w' ∧ ¬ (n < 1 ∨ n > 8 ∨ a < 0), ?_, ?_⟩
  · have bad : (n < 1 ∨ n > 8 ∨ a < 0) → ((0 : Int), (1 : Int)) = getB l a n ∧ Ext w w := fun h => by
      rw [getB, if_pos h]; exact ⟨rfl, Upd.refl _ _⟩
    exact cnd_dec (fun h => bad (.inl h)) fun h => cnd_dec (fun h => bad (.inr (.inl h))) fun h' => cnd_dec (fun h => bad (.inr (.inr h))) fun h'' => ⟨rfl, by omega⟩
  rintro _ _ _ ⟨rfl, hb⟩
  refine ⟨fun _ w' => w = w' ∧ ¬ (a > l.length ∨ (l.length : Int) - a < n), ?_, ?_⟩
  · have bad : (a > l.length ∨ (l.length : Int) - a < n) → ((0 : Int), (10 : Int)) = getB l a n ∧ Ext w w := fun h => by
      rw [getB, if_neg hb, if_pos h]; exact ⟨rfl, Upd.refl _ _⟩
    refine cnd_dec (fun h => bad (.inl (by omega))) fun h => ?_
    have : IntKind.i64.wrap ((s.len : Int) - a) = (l.length : Int) - a := by rw [i64_id] <;> omega
    rw [this]
    exact cnd_dec (fun h => bad (.inr h)) fun h' => ⟨rfl, by omega⟩
  rintro _ _ _ ⟨rfl, hb2⟩
  obtain ⟨i, rfl⟩ : ∃ k : Nat, a = k := ⟨a.toNat, by omega⟩
  obtain ⟨k, rfl⟩ : ∃ k : Nat, n = k := ⟨n.toNat, by omega⟩
  have hget : getB l i k = (((leV ((l.drop i).take k) : Nat) : Int), 0) := by rw [getB, if_neg hb, if_neg hb2]; rfl
  have hin : i + k ≤ l.length := by omega
  intro w1
  obtain ⟨e1, z1, b1⟩ := alloc_facts w (.cells #[.int .u64 0] T.uint64)
  intro w2
  obtain ⟨e2, z2, b2⟩ := alloc_facts w1 (.cells #[.int .i64 0] T.int)
  have g1 : w2.heap[w.heap.size]? = some (.cells #[.int .u64 0] T.uint64) := e2.get b1
  have g2 : w2.heap[w1.heap.size]? = some (.cells #[.int .i64 0] T.int) := b2
  have e12 : Ext w w2 := e1.tr e2
  have zz1 : w1.heap.size = w.heap.size + 1 := z1
  have zz2 : w2.heap.size = w1.heap.size + 1 := z2
  clear b1 b2 e1 e2 z1 z2
  clear_value w2
  clear_value w1
  refine set_ok (o := 0) g1 (by simp) ?_
  intro w3
  obtain ⟨u3, z3, h1, k3⟩ := set_facts (o := 0) g1 (.int .u64 0)
  have h2 : w3.heap[w1.heap.size]? = _ := (k3 _ (by omega)).trans g2
  have e3 : Ext w w3 := e12.trans u3 fun x hx e => by omega
  have z3 : w3.heap.size = w2.heap.size := z3
  have h1 : w3.heap[w.heap.size]? = some (.cells #[.int .u64 0] T.uint64) := h1
  clear_value w3
  clear u3 k3 g1 g2
  refine set_ok (o := 0) h2 (by simp) ?_
  intro w4
  obtain ⟨u4, z4, g2, k4⟩ := set_facts (o := 0) h2 (.int .i64 0)
  have g1 : w4.heap[w.heap.size]? = _ := (k4 _ (by omega)).trans h1
  have e4 : Ext w w4 := e3.trans u4 fun x hx e => by omega
  have z4 : w4.heap.size = w3.heap.size := z4
  have g2 : w4.heap[w1.heap.size]? = some (.cells #[.int .i64 0] T.int) := g2
  clear_value w4
  clear u4 k4 h1 h2
  refine walk_mkd (K := fun x w1 => _ ∧ _ ∧ _ ∧ _ ∧ CallT _ _ _ [.agg #[x], _, _] w1.drew _) ?_
  intro w5 e5 z5 _
  have h1 := e5.get g1
  have h2 := e5.get g2
  have e5 : Ext w w5 := e4.tr e5
  have hik : IntKind.i64.wrap ((i : Int) + (k : Int)) = ((i + k : Nat) : Int) := by rw [i64_id] <;> omega
  rw [hik]
  simp only [Int.toNat_natCast]
  refine ⟨by omega, by omega, by omega, by omega, ?_⟩
  have hsub : RdB w5.drew _ _ := ((hs.ext e5).drew).subB hc (i := i) (j := i + k) (by omega) hin
  rw [show i + k - i = k by omega] at hsub ⊢
  have hlen : ((l.drop i).take k).length = k := by rw [List.length_take, List.length_drop]; omega
  generalize hL : (l.drop i).take k = L at *
  clear e12 e3 e4
  have hover := word_walk_over.spec (x0 := .func (.func F.word_Get_1) #[] #[.pointer (some ⟨w.heap.size, 0, none⟩), .pointer (some ⟨w1.heap.size, 0, none⟩)]) (M := fun b => b = w.heap.size ∨ b = w1.heap.size)
    (fun j w' => w'.heap[w.heap.size]? = some (.cells #[.int .u64 (leV (L.take j) : Nat)] T.uint64) ∧ w'.heap[w1.heap.size]? = some (.cells #[.int .i64 ((8 * j : Nat) : Int)] T.int))
    (fun _ _ => False) 0 hsub (by omega) (by show ¬ (w5.heap.size = w.heap.size ∨ w5.heap.size = w1.heap.size); omega) ?_ (fun w' he => ⟨he.get h1, he.get h2⟩) ?_
  · refine CallT.mono hover ?_
    rintro ⟨j, r⟩ w' ⟨hu, m, hm, hr⟩
    cases r with
    | false => exact hr.2.elim
    | true =>
      obtain ⟨rfl, c1, _⟩ := hr
      refine ⟨_, cell_blk c1, ?_, ?_⟩
      · rw [hget, Nat.zero_max, List.take_length]
      · exact (e5.drew).trans hu fun x hx hM => by omega
  · intro hne b hb hM
    have := (hs.sub hc (i := i) (j := i + k) (by omega) (by omega)).lt ?_ b ?_
    · omega
    · intro h
      have := congrArg List.length h
      rw [(hs.sub hc (i := i) (j := i + k) (by omega) (by omega)).len] at this
      simp at this
      omega
    · rw [show i + k - i = k by omega]; exact hb
  · rintro j b w' hb hu hsz ⟨c1, c2⟩
    have hjk : j < k := by have := (List.getElem?_eq_some_iff.1 hb).1; omega
    refine word_Get_1.vc b.toNat _ _ w'.drew _ ?_
    have d1 : w'.drew.drew.heap[w.heap.size]? = _ := c1
    have d2 : w'.drew.drew.heap[w1.heap.size]? = _ := c2
    refine ⟨_, cell_blk d1, _, cell_blk d2, by omega, set_ok (o := 0) d1 (by simp) ?_⟩
    have hlt : leV (L.take j) < 256 ^ j := by have := leV_lt (L.take j); rwa [List.length_take, Nat.min_eq_left (by omega)] at this
    have hb256 := b.toNat_lt
    have hp : b.toNat * 256 ^ j + 256 ^ j ≤ 256 ^ (j + 1) := by
      rw [Nat.pow_succ]
      have := Nat.mul_le_mul_right (256 ^ j) (show b.toNat + 1 ≤ 256 by omega)
      rw [Nat.add_mul, Nat.one_mul] at this
      omega
    have hj64 := pow256_le (i := j) (by omega)
    have hv : bor .u64 ((leV (L.take j) : Nat) : Int) (shl .u64 (IntKind.u64.wrap (b.toNat : Int)) ((8 * j : Nat) : Int)) = ((leV (L.take (j + 1)) : Nat) : Int) := by
      have hm : b.toNat * 2 ^ (8 * j) % 2 ^ IntKind.u64.bits = b.toNat * 256 ^ j := by
        rw [← pow256]; apply Nat.mod_eq_of_lt; simp only [IntKind.bits]; omega
      rw [u64_id (x := b.toNat) (by omega) (by omega), shl_nat (k := .u64) rfl (by simp only [IntKind.bits]; omega), hm,
        bor_nat (k := .u64) rfl (by simp only [IntKind.bits]; omega) (by simp only [IntKind.bits]; omega), or_add' hlt, List.take_add_one, hb, Option.toList_some, leV_snoc, List.length_take, Nat.min_eq_left (by omega)]
    rw [hv]
    intro x1
    obtain ⟨u1, _, k1, kk⟩ := set_facts (o := 0) d1 (.int .u64 ((leV (L.take (j + 1)) : Nat) : Int))
    have k2 : x1.heap[w1.heap.size]? = _ := (kk _ (by omega)).trans d2
    have k1 : x1.heap[w.heap.size]? = some (.cells #[.int .u64 ((leV (L.take (j + 1)) : Nat) : Int)] T.uint64) := k1
    have u1 : Upd (fun b => b = w.heap.size ∨ b = w1.heap.size) w' x1 := ((Upd.refl _ w').drew.drew).trans u1 fun _ _ h => .inl h
    clear_value x1
    refine ⟨_, cell_blk k2, set_ok (o := 0) k2 (by simp) ?_⟩
    have h8 : IntKind.i64.wrap (((8 * j : Nat) : Int) + 8) = ((8 * (j + 1) : Nat) : Int) := by rw [i64_id] <;> omega
    rw [h8]
    obtain ⟨u2, _, m2, mm⟩ := set_facts (o := 0) k2 (.int .i64 ((8 * (j + 1) : Nat) : Int))
    exact ⟨u1.trans u2 fun _ _ h => .inr h, (mm _ (by omega)).trans k1, m2⟩
end Go.Proofs
/- What turned bits do to the sum of chapter 02. Conditions: those of each lemma. -/
namespace Go.Proofs
open Go Go.Vc Go.Crc
theorem half_zero {c : Nat} (hc : c < 2 ^ 32) (h : half c = 0) : c = 0 := by
  unfold half at h
  split at h
  · have : c / 2 = P := by
      have h1 := congrArg (· ^^^ P) h
      simp only [Nat.xor_assoc, Nat.xor_self, Nat.xor_zero, Nat.zero_xor] at h1
      exact h1
    unfold P at this
    omega
  · rw [Nat.xor_zero] at h; omega
theorem hn_zero : ∀ (n : Nat) {c : Nat}, c < 2 ^ 32 → Crc.hn n c = 0 → c = 0
  | 0, _, _, h => h
  | n + 1, _, hc, h => half_zero hc (hn_zero n (half_lt hc) h)
theorem X_ne (k : Nat) : X k ≠ 0 := fun h => by have := hn_zero k (by decide) h; exact absurd this (by decide)
/-! ### the order -/
/-! ### how many ones -/
def par (c : Nat) : Nat := xs 32 fun i => (c.testBit i).toNat
theorem par_lin : Lin par := by
  refine Lin.sum (g := fun i c => (c.testBit i).toNat) (fun i => ?_) 32
  refine ⟨by simp, fun a b => ?_⟩
  rw [Nat.testBit_xor]
  cases a.testBit i <;> cases b.testBit i <;> rfl
theorem par_half {c : Nat} (hc : c < 2 ^ 32) : par (half c) = par c := by
  refine lin_ext (f := fun c => par (half c)) (g := par) (par_lin.comp half_lin) par_lin ?_ hc
  decide +kernel
theorem par_X (k : Nat) : par (X k) = 1 := by
  have key : ∀ (k : Nat) {c : Nat}, c < 2 ^ 32 → par (Crc.hn k c) = par c := by
    intro k
    induction k with
    | zero => intro c _; rfl
    | succ k ih => intro c hc; rw [Crc.hn, ih (half_lt hc), par_half hc]
  rw [X, key k (by decide)]
  decide +kernel
theorem X_three (a b c : Nat) : X a ^^^ X b ^^^ X c ≠ 0 := fun h => by
  have := congrArg par h
  rw [par_lin.x, par_lin.x, par_X, par_X, par_X, par_lin.z] at this
  exact absurd this (by decide)
/-! ### a turned bit -/
def turn1 (l : List UInt8) (k : Int) : List UInt8 := if 0 ≤ k ∧ k / 8 < l.length then l.set (k / 8).toNat (l.getD (k / 8).toNat 0 ^^^ UInt8.ofNat (2 ^ (k % 8).toNat)) else l
def turns (l : List UInt8) (ks : List Int) : List UInt8 := ks.foldl turn1 l
theorem turn1_len (l : List UInt8) (k : Int) : (turn1 l k).length = l.length := by unfold turn1; split <;> simp
theorem turns_len : ∀ (ks : List Int) (l : List UInt8), (turns l ks).length = l.length
  | [], _ => rfl
  | k :: r, l => by
    show (turns (turn1 l k) r).length = _
    rw [turns_len r, turn1_len]
/-- The sum's change by one bit. -/
def er (n : Nat) (k : Int) : Nat := if 0 ≤ k ∧ k < 8 * n then X (8 * n + 31 - k.toNat) else 0
theorem raw_set {l : List UInt8} {i : Nat} (hi : i < l.length) (d : UInt8) (s : Nat) : raw s (l.set i (l[i] ^^^ d)) = raw s l ^^^ Crc.hn (8 * (l.length - i)) d.toNat := by
  have e1 : l = l.take i ++ (l[i] :: l.drop (i + 1)) := by rw [List.getElem_cons_drop, List.take_append_drop]
  have e2 : l.set i (l[i] ^^^ d) = l.take i ++ ((l[i] ^^^ d) :: l.drop (i + 1)) := by rw [List.set_eq_take_append_cons_drop, if_pos hi]
  rw [e2, raw_append]
  conv => rhs; lhs; rw [e1, raw_append]
  rw [raw, raw, raw_split (l.drop (i + 1)), raw_split (l.drop (i + 1)) (Crc.hn 8 (raw s (l.take i) ^^^ (l[i]).toNat)), UInt8.toNat_xor, ← Nat.xor_assoc, (Crc.hn_lin 8).x _ d.toNat, (Crc.hn_lin _).x, ← Crc.hn_add, ← Crc.hn_add, List.length_drop]
  rw [show 8 * (l.length - (i + 1)) + 8 = 8 * (l.length - i) by omega, Nat.xor_assoc, Nat.xor_comm (Crc.hn (8 * (l.length - i)) d.toNat), ← Nat.xor_assoc]
theorem raw_turn1 (l : List UInt8) (k : Int) (s : Nat) : raw s (turn1 l k) = raw s l ^^^ er l.length k := by
  unfold turn1 er
  by_cases h : 0 ≤ k ∧ k / 8 < l.length
  · rw [if_pos h, if_pos (by omega)]
    obtain ⟨q, rfl⟩ : ∃ q : Nat, k = q := ⟨k.toNat, by omega⟩
    have h1 : ((q : Int) / 8).toNat = q / 8 := by omega
    have h2 : ((q : Int) % 8).toNat = q % 8 := by omega
    have hi : q / 8 < l.length := by omega
    have hg : l.getD (q / 8) 0 = l[q / 8] := by simp [List.getD, hi]
    rw [h1, h2, hg, raw_set hi, Int.toNat_natCast]
    congr 1
    have h3 : (UInt8.ofNat (2 ^ (q % 8))).toNat = 2 ^ (q % 8) := by
      rw [UInt8.toNat_ofNat']
      apply Nat.mod_eq_of_lt
      exact Nat.pow_lt_pow_right (by decide) (by omega)
    rw [h3, pow_X _ (by omega), X, X, ← Crc.hn_add]
    congr 1
    omega
  · rw [if_neg h, if_neg (by omega), Nat.xor_zero]
def ers (n : Nat) (ks : List Int) : Nat := ks.foldl (fun a k => a ^^^ er n k) 0
theorem raw_turns : ∀ (ks : List Int) (l : List UInt8) (s : Nat), raw s (turns l ks) = raw s l ^^^ ers l.length ks := by
  have key : ∀ (ks : List Int) (l : List UInt8) (s a : Nat), raw s (turns l ks) ^^^ a = raw s l ^^^ ks.foldl (fun a k => a ^^^ er l.length k) a := by
    intro ks
    induction ks with
    | nil => intro l s a; rfl
    | cons k r ih =>
      intro l s a
      show raw s (turns (turn1 l k) r) ^^^ a = _
      have h1 := ih (turn1 l k) s (a ^^^ er l.length k)
      rw [turn1_len] at h1
      rw [List.foldl_cons]
      have h2 : raw s (turns (turn1 l k) r) ^^^ (a ^^^ er l.length k) ^^^ er l.length k = raw s (turns (turn1 l k) r) ^^^ a := by
        rw [Nat.xor_assoc, Nat.xor_assoc, Nat.xor_self, Nat.xor_zero]
      rw [← h2, h1, raw_turn1, Nat.xor_assoc, Nat.xor_assoc]
      congr 1
      rw [Nat.xor_comm (List.foldl _ _ _), ← Nat.xor_assoc, Nat.xor_self, Nat.zero_xor]
  intro ks l s
  have := key ks l s 0
  rwa [Nat.xor_zero] at this
/-! ### bytes with their sum behind them -/
def behindB (l : List UInt8) : List UInt8 := l ++ leB 4 (more 0 l)
def rightB (x : List UInt8) : Bool := if x.length < 4 then false else behindB (x.take (x.length - 4)) == x
theorem right_behind (l : List UInt8) : rightB (behindB l) = true := by
  have hl : (behindB l).length = l.length + 4 := by rw [behindB, List.length_append, leB_len]
  rw [rightB, if_neg (by omega), hl, show l.length + 4 - 4 = l.length by omega]
  have : (behindB l).take l.length = l := by rw [behindB, List.take_left']; rfl
  rw [this]; simp
theorem er_X {n k : Nat} (h : k < 8 * n) : er n k = X (8 * n + 31 - k) := by rw [er, if_pos (by omega), Int.toNat_natCast]
theorem ers1 {n i : Nat} (hi : i < 8 * n) : ers n [(i : Int)] ≠ 0 := by
  simp only [ers, List.foldl_cons, List.foldl_nil, Nat.zero_xor]
  rw [er_X hi]; exact X_ne _
theorem ers3 {n i j k : Nat} (hi : i < 8 * n) (hj : j < 8 * n) (hk : k < 8 * n) : ers n [(i : Int), (j : Int), (k : Int)] ≠ 0 := by
  simp only [ers, List.foldl_cons, List.foldl_nil, Nat.zero_xor]
  rw [er_X hi, er_X hj, er_X hk]
  exact X_three _ _ _
end Go.Proofs
/- What a sealed sector is, and what any bytes are as one. Conditions: those that each lemma names. -/
namespace Go.Proofs
open Go Go.Vc Go.Crc
def knownK (k : UInt8) : Bool := k == 23 || k == 43 || k == 77 || k == 142 || k == 113 || k == 178
/-- The bytes of a sector ahead of its sum. -/
def secH (k : UInt8) (t : Nat) (p : List UInt8) : List UInt8 := [k, 0] ++ leB 2 p.length ++ leB 8 t ++ p ++ List.replicate (496 - p.length) 0
def sealB (k : UInt8) (t : Nat) (p : List UInt8) : List UInt8 := behindB (secH k t p)
def sealR (k : UInt8) (t : Nat) (p : List UInt8) : List UInt8 × Int := if knownK k = false then ([], 1) else if 496 < p.length then ([], 4) else (sealB k t p, 0)
abbrev SecR := (UInt8 × Nat × List UInt8) × Int
def openR (b : List UInt8) : SecR :=
  if b.length ≠ 512 then ((0, 0, []), 1)
  else if allZ b = true then ((0, 0, []), 0)
  else if rightB b = false then ((0, 0, []), 30)
  else if knownK (b.getD 0 0) = false ∨ b.getD 1 0 ≠ 0 ∨ 496 < leV ((b.drop 2).take 2) ∨ allZ ((b.drop (12 + leV ((b.drop 2).take 2))).take (496 - leV ((b.drop 2).take 2))) = false then ((0, 0, []), 11)
  else ((b.getD 0 0, leV ((b.drop 4).take 8), (b.drop 12).take (leV ((b.drop 2).take 2))), 0)
theorem secH_len {k : UInt8} {t : Nat} {p : List UInt8} (h : p.length ≤ 496) : (secH k t p).length = 508 := by
  simp only [secH, List.length_append, leB_len, List.length_replicate, List.length_cons, List.length_nil]; omega
theorem sealB_len {k : UInt8} {t : Nat} {p : List UInt8} (h : p.length ≤ 496) : (sealB k t p).length = 512 := by
  rw [sealB, behindB, List.length_append, leB_len, secH_len h]
theorem known_ne {k : UInt8} (h : knownK k = true) : k ≠ 0 := by rintro rfl; exact absurd h (by decide)
theorem sealB_eq {k : UInt8} {t : Nat} {p : List UInt8} : sealB k t p = k :: 0 :: (leB 2 p.length ++ (leB 8 t ++ (p ++ (List.replicate (496 - p.length) 0 ++ leB 4 (more 0 (secH k t p)))))) := by
  simp [sealB, behindB, secH, List.append_assoc]
theorem open_seal {k : UInt8} {t : Nat} {p : List UInt8} (hk : knownK k = true) (hp : p.length ≤ 496) (ht : t < 2 ^ 64) : openR (sealB k t p) = ((k, t, p), 0) := by
  have h512 := sealB_len (k := k) (t := t) hp
  have hr : rightB (sealB k t p) = true := right_behind _
  have h0 : (sealB k t p).getD 0 0 = k := by rw [sealB_eq]; rfl
  have h1 : (sealB k t p).getD 1 0 = 0 := by rw [sealB_eq]; rfl
  have hz : allZ (sealB k t p) = false := by
    rw [sealB_eq, allZ, List.all_cons]
    have := known_ne hk
    simp [this]
  have d2 : ((sealB k t p).drop 2).take 2 = leB 2 p.length := by
    rw [sealB_eq]
    simp only [List.drop_succ_cons, List.drop_zero]
    rw [List.take_left' (leB_len _ _)]
  have hn : leV (leB 2 p.length) = p.length := by rw [leV_leB, Nat.mod_eq_of_lt (by omega)]
  have d4 : ((sealB k t p).drop 4).take 8 = leB 8 t := by
    rw [sealB_eq]
    simp only [List.drop_succ_cons]
    rw [List.drop_left' (leB_len _ _), List.take_left' (leB_len _ _)]
  have d12 : (sealB k t p).drop 12 = p ++ (List.replicate (496 - p.length) 0 ++ leB 4 (more 0 (secH k t p))) := by
    rw [sealB_eq, show (12 : Nat) = 2 + 8 + 1 + 1 from rfl]
    simp only [List.drop_succ_cons]
    rw [← List.drop_drop, List.drop_left' (leB_len _ _), List.drop_left' (leB_len _ _)]
  have dn : ((sealB k t p).drop (12 + p.length)).take (496 - p.length) = List.replicate (496 - p.length) 0 := by
    rw [← List.drop_drop, d12, List.drop_left' rfl, List.take_left' (by simp)]
  rw [openR, if_neg (by omega), if_neg (by rw [hz]; simp), if_neg (by rw [hr]; simp), d2, hn, d4, h0, h1, dn, if_neg]
  · rw [d12, List.take_left' rfl, leV_leB, Nat.mod_eq_of_lt (by omega)]
  · rw [hk]
    simp [allZ]
    omega
end Go.Proofs
/- A sealed sector with one to three turned bits is not one. Conditions: those of each lemma. -/
namespace Go.Proofs
open Go Go.Vc Go.Crc
def bitOf (k : Int) : UInt8 := if 0 ≤ k ∧ k < 8 then UInt8.ofNat (2 ^ k.toNat) else 0
theorem turn1_zero {l : List UInt8} (h : 0 < l.length) (k : Int) : (turn1 l k).getD 0 0 = l.getD 0 0 ^^^ bitOf k := by
  unfold turn1 bitOf
  by_cases h1 : 0 ≤ k ∧ k < 8
  · have h2 : k / 8 = 0 := by omega
    have h3 : k % 8 = k := by omega
    rw [if_pos ⟨h1.1, by omega⟩, if_pos h1, h2, h3]
    simp [List.getD_eq_getElem?_getD, h]
  · rw [if_neg h1]
    split
    · rename_i h4
      have h5 : (k / 8).toNat ≠ 0 := by omega
      rw [List.getD_eq_getElem?_getD, List.getElem?_set_ne h5, ← List.getD_eq_getElem?_getD]
      simp
    · simp
theorem bitOf_cases (k : Int) : ∃ i : Fin 9, bitOf k = (if i.val < 8 then UInt8.ofNat (2 ^ i.val) else 0) := by
  unfold bitOf
  by_cases h : 0 ≤ k ∧ k < 8
  · refine ⟨⟨k.toNat, by omega⟩, ?_⟩
    rw [if_pos h, if_pos (by show k.toNat < 8; omega)]
  · exact ⟨⟨8, by decide⟩, by rw [if_neg h]; rfl⟩
/-- One to three bits, each another one. -/
def Bits3 (n : Nat) (ks : List Int) : Prop := (∃ i : Nat, i < n ∧ ks = [(i : Int)]) ∨ ∃ i j k : Nat, (i < n ∧ j < n ∧ k < n) ∧ (i ≠ j ∧ j ≠ k ∧ i ≠ k) ∧ ks = [(i : Int), (j : Int), (k : Int)]
end Go.Proofs
/- Slices of structs: what reads as so many things, each of sz cells. Conditions: those that each lemma names. -/
namespace Go.Vc
open Go
theorem flat_len {α : Type} {enc : α → List Value} {sz : Nat} (h : ∀ x, (enc x).length = sz) (l : List α) : (l.flatMap enc).length = l.length * sz := by
  induction l with
  | nil => simp
  | cons x r ih => simp [h, ih, Nat.add_mul]; omega
theorem flat_get {α : Type} {enc : α → List Value} {sz : Nat} (h : ∀ x, (enc x).length = sz) : ∀ (l : List α) (i k : Nat), k < sz → (l.flatMap enc)[i * sz + k]? = (l[i]?).bind fun x => (enc x)[k]?
  | [], i, k, _ => by simp
  | x :: r, 0, k, hk => by
    simp only [Nat.zero_mul, Nat.zero_add, List.flatMap_cons, List.getElem?_cons_zero, Option.bind_some]
    rw [List.getElem?_append_left (by rw [h]; exact hk)]
  | x :: r, i + 1, k, hk => by
    simp only [List.flatMap_cons, List.getElem?_cons_succ]
    rw [List.getElem?_append_right (by rw [h, Nat.add_mul]; omega), h, show (i + 1) * sz + k - sz = i * sz + k by rw [Nat.add_mul]; omega, flat_get h r i k hk]
/-- A slice that reads as these things. -/
structure RdS {α : Type} (enc : α → List Value) (sz : Nat) (w : World) (s : SV) (l : List α) : Prop where
  rd : Rd w sz s (l.flatMap enc)
  esz : ∀ x, (enc x).length = sz
  pos : 0 < sz
structure OwnS {α : Type} (enc : α → List Value) (sz : Nat) (T : TypeId) (w : World) (B : Nat) (s : SV) (l : List α) : Prop where
  own : Own w B T sz s (l.flatMap enc)
  esz : ∀ x, (enc x).length = sz
  pos : 0 < sz
variable {α : Type} {enc : α → List Value} {sz : Nat} {w w' : World} {s : SV} {l : List α} {T : TypeId} {B : Nat}
theorem OwnS.rd (h : OwnS enc sz T w B s l) : RdS enc sz w s l := ⟨h.own.rd, h.esz, h.pos⟩
theorem RdS.len (h : RdS enc sz w s l) : s.len = l.length := by
  have := h.rd.len
  rw [flat_len h.esz] at this
  exact (Nat.eq_of_mul_eq_mul_right h.pos this).symm
theorem OwnS.len (h : OwnS enc sz T w B s l) : s.len = l.length := h.rd.len
theorem RdS.ext (h : RdS enc sz w s l) (hu : Ext w w') : RdS enc sz w' s l := ⟨h.rd.ext hu, h.esz, h.pos⟩
theorem OwnS.ext (h : OwnS enc sz T w B s l) (hu : Ext w w') : OwnS enc sz T w' B s l := ⟨h.own.ext hu, h.esz, h.pos⟩
theorem RdS.keep {M : Nat → Prop} (h : RdS enc sz w s l) (hu : Upd M w w') (hm : ∀ b, b < w.heap.size → s.blk b → ¬ M b) : RdS enc sz w' s l := ⟨h.rd.keep hu hm, h.esz, h.pos⟩
theorem RdS.at_ (h : RdS enc sz w s l) {i : Nat} {x : α} (hx : l[i]? = some x) {A : Addr} (hA : s.a = some A) : cellsAt w (A.add (i * sz)) (enc x) := by
  intro k v hv
  have hk : k < sz := by have := (List.getElem?_eq_some_iff.1 hv).1; rw [h.esz] at this; exact this
  rw [add_add]
  refine h.rd.at_ A hA _ v ?_
  rw [flat_get h.esz l i k hk, hx, Option.bind_some, hv]
theorem RdS.fld (h : RdS enc sz w s l) {i : Nat} {x : α} (hx : l[i]? = some x) {A : Addr} (hA : s.a = some A) {k : Nat} {v : Value} (hv : (enc x)[k]? = some v) : w.cell? ((A.add (i * sz)).add k) = some v := h.at_ hx hA k v hv
theorem RdS.get (h : RdS enc sz w s l) {i : Nat} (hi : i < l.length) {K : Addr → Prop} (hk : ∀ A, s.a = some A → K A) : onP s.a K := by
  cases hA : s.a with
  | none => have := h.rd.nil hA; rw [h.len] at this; omega
  | some A => exact hk A hA
theorem RdS.nil (hs : ∀ x, (enc x).length = sz) (hp : 0 < sz) (w : World) (c : Nat) : RdS enc sz w ⟨none, 0, c⟩ [] := ⟨Rd.nil' _ _ _, hs, hp⟩
theorem OwnS.nil (hs : ∀ x, (enc x).length = sz) (hp : 0 < sz) (w : World) (B : Nat) (T : TypeId) : OwnS enc sz T w B ⟨none, 0, 0⟩ [] := ⟨Own.nil _ _ _ _, hs, hp⟩
/-- A slice of flat structs, as its shape tells it. -/
theorem DS.flat {bd : TypeId → Nat → Prop} {bs : Nat → Prop} {e : TypeId} {n : Nat} {d : DS} {a : Option Addr} {len cap : Nat} (good : α → Prop) (h : DS.rel w bd bs (.slice e n d) [.slice a len cap])
    (hs : ∀ x, (enc x).length = n) (hp : 0 < n) (hd : ∀ es, es.length = n → d.rel w bd bs es → ∃ x, enc x = es ∧ good x) :
    ∃ l : List α, RdS enc n w ⟨a, len, cap⟩ l ∧ len ≤ cap ∧ (cap = 0 ∨ bd e cap) ∧ ∀ x ∈ l, good x := by
  obtain ⟨a', len', cap', he, h⟩ := h
  simp only [List.cons.injEq, Value.slice.injEq, and_true] at he
  obtain ⟨rfl, rfl, rfl⟩ := he
  rcases h with ⟨rfl, rfl, rfl⟩ | ⟨A, rfl, hle, hb, hc⟩
  · exact ⟨[], RdS.nil hs hp w 0, Nat.le_refl _, .inl rfl, by simp⟩
  · have hx : ∀ i : Fin len, ∃ x, cellsAt w (A.add (i.val * n)) (enc x) ∧ good x := fun i => by
      obtain ⟨es, h1, h2, h3⟩ := hc i.val (by omega)
      obtain ⟨x, rfl, hg⟩ := hd es h1 h3
      exact ⟨x, h2, hg⟩
    let f := fun i => Classical.choose (hx i)
    have hf := fun i => Classical.choose_spec (hx i)
    refine ⟨List.ofFn f, ⟨⟨?_, fun h => by simp at h, ?_⟩, hs, hp⟩, hle, .inr hb, ?_⟩
    · rw [flat_len hs, List.length_ofFn]
    · intro A' hA
      obtain rfl := Option.some.inj hA
      intro j v hv
      have hj : j < len * n := by have := (List.getElem?_eq_some_iff.1 hv).1; rw [flat_len hs, List.length_ofFn] at this; exact this
      have hdm : j = j / n * n + j % n := by rw [Nat.mul_comm]; exact (Nat.div_add_mod j n).symm
      have hjn : j / n < len := Nat.div_lt_of_lt_mul (by rw [Nat.mul_comm]; exact hj)
      rw [hdm] at hv
      rw [flat_get hs _ _ _ (Nat.mod_lt _ hp), List.getElem?_ofFn, dif_pos hjn, Option.bind_some] at hv
      rw [hdm, ← add_add]
      exact (hf ⟨j / n, hjn⟩).1 _ v hv
    · intro x hx
      obtain ⟨i, rfl⟩ := List.mem_ofFn.1 hx
      exact (hf i).2
end Go.Vc
/- A field of an element of a slice of one's own is set. Conditions: those that each lemma names. -/
namespace Go.Vc
open Go
theorem flat_set {α : Type} {enc : α → List Value} {sz : Nat} (h : ∀ x, (enc x).length = sz) {x y : α} {k : Nat} {v : Value} (hk : k < sz) (hy : enc y = (enc x).set k v) :
    ∀ (l : List α) (i : Nat), l[i]? = some x → (l.flatMap enc).set (i * sz + k) v = (l.set i y).flatMap enc
  | [], i, hx => by simp at hx
  | a :: r, 0, hx => by
    obtain rfl := Option.some.inj hx
    simp only [List.flatMap_cons, List.set_cons_zero, Nat.zero_mul, Nat.zero_add]
    rw [List.set_append_left _ _ (by rw [h]; exact hk), hy]
  | a :: r, i + 1, hx => by
    simp only [List.flatMap_cons, List.set_cons_succ]
    have ih := flat_set h hk hy r i (by simpa using hx)
    rw [List.set_append_right (s := enc a) _ _ (by rw [h, Nat.add_mul]; omega), h, show (i + 1) * sz + k - sz = i * sz + k by rw [Nat.add_mul]; omega, ih]
theorem OwnS.setf {α : Type} {enc : α → List Value} {sz : Nat} {w : World} {s : SV} {l : List α} {T : TypeId} {B : Nat} (h : OwnS enc sz T w B s l) {i : Nat} {x : α} (hx : l[i]? = some x) {A : Addr} (hA : s.a = some A) {k : Nat} (hk : k < sz) {v : Value} {y : α} (hy : enc y = (enc x).set k v) :
    (w.cell? ((A.add (i * sz)).add k)).isSome = true ∧ w.frozen? ((A.add (i * sz)).add k) = false ∧ OwnS enc sz T (w.setCell ((A.add (i * sz)).add k) v) B s (l.set i y) ∧
      (w.setCell ((A.add (i * sz)).add k) v).heap.size = w.heap.size ∧ Upd s.blk w (w.setCell ((A.add (i * sz)).add k) v) := by
  rcases h.own.is with ⟨h1, _⟩ | ⟨b, rest, ha, hB, hb, hcap, hle⟩
  · rw [h1] at hA; simp at hA
  · have hA' := hA
    rw [ha] at hA
    obtain rfl := Option.some.inj hA
    have hi : i < l.length := (List.getElem?_eq_some_iff.1 hx).1
    have hlt : i * sz + k < (l.flatMap enc).length := by
      rw [flat_len h.esz]
      have : (i + 1) * sz ≤ l.length * sz := Nat.mul_le_mul_right _ hi
      rw [Nat.add_mul] at this; omega
    rw [add_add, add_mk, Nat.zero_add]
    refine ⟨?_, frozen_blk hb, ⟨⟨?_, .inr ⟨b, rest, ha, hB, ?_, ?_, hle⟩⟩, h.esz, h.pos⟩, by simp, (Upd.refl _ w).set (p := ⟨b, i * sz + k, none⟩) (fun _ => ⟨_, hA', rfl⟩) v⟩
    · rw [cell_blk hb, List.getElem?_toArray, List.getElem?_eq_getElem (by rw [List.length_append]; omega)]; rfl
    · rw [← flat_set h.esz hk hy l i hx, List.length_set]; exact h.own.len
    · rw [blk_set hb, List.setIfInBounds_toArray, List.set_append_left _ _ hlt, flat_set h.esz hk hy l i hx]
    · rw [← flat_set h.esz hk hy l i hx, List.length_append, List.length_set, ← List.length_append]; exact hcap
end Go.Vc
/- Blocks that hold a variable: what stands in them, what is loaded, stored. Conditions: those that each lemma names. -/
namespace Go.Vc
open Go
/-- A block holds these cells. -/
def BK (w : World) (b : Nat) (T : TypeId) (vs : List Value) : Prop := w.heap[b]? = some (.cells vs.toArray T (0, 0))
theorem BK.new (w : World) (T : TypeId) (vs : List Value) : BK (w.alloc (.cells vs.toArray T)) w.heap.size T vs := blk_new _ _
variable {w w' : World} {b : Nat} {T : TypeId} {vs : List Value}
theorem BK.all (h : BK w b T vs) : cellsAt w ⟨b, 0, none⟩ vs := cellsAt_blk h fun j v hv => by simpa using hv
theorem BK.get (h : BK w b T vs) (i : Nat) {v : Value} (hv : vs[i]? = some v) : w.cell? (Addr.add ⟨b, 0, none⟩ i) = some v := by
  rw [add_mk, cell_blk h, Nat.zero_add]; simpa using hv
theorem BK.get0 (h : BK w b T vs) {v : Value} (hv : vs[0]? = some v) : w.cell? ⟨b, 0, none⟩ = some v := h.get 0 hv
theorem BK.upd {M : Nat → Prop} (h : BK w b T vs) (u : Upd M w w') (hm : ¬ M b) : BK w' b T vs := u.get h hm
theorem BK.ext (h : BK w b T vs) (u : Ext w w') : BK w' b T vs := h.upd u id
theorem BK.drew (h : BK w b T vs) : BK w.drew b T vs := h
theorem BK.lt (h : BK w b T vs) : b < w.heap.size := lt_of_blk h
theorem BK.can (h : BK w b T vs) {n : Nat} (hn : n ≤ vs.length) : canSt w ⟨b, 0, none⟩ n := canSt_blk (c := vs) h (by omega)
theorem BK.set (h : BK w b T vs) {us : List Value} (hu : us.length = vs.length) : BK (setCells w ⟨b, 0, none⟩ 0 us) b T us := by
  have := setCells_blk (o := 0) us w 0 vs h (by omega)
  unfold BK
  rw [this]
  simp [spl, hu]
theorem BK.store (h : BK w b T vs) (i : Nat) (hi : i < vs.length) (v : Value) :
    (w.cell? (Addr.add ⟨b, 0, none⟩ i)).isSome = true ∧ w.frozen? (Addr.add ⟨b, 0, none⟩ i) = false ∧ BK (w.setCell (Addr.add ⟨b, 0, none⟩ i) v) b T (vs.set i v) := by
  rw [add_mk, cell_blk h, frozen_blk h, Nat.zero_add]
  refine ⟨by simp [hi], rfl, ?_⟩
  unfold BK
  rw [blk_set h, List.setIfInBounds_toArray]
theorem BK.store0 (h : BK w b T vs) (hi : 0 < vs.length) (v : Value) :
    (w.cell? ⟨b, 0, none⟩).isSome = true ∧ w.frozen? ⟨b, 0, none⟩ = false ∧ BK (w.setCell ⟨b, 0, none⟩ v) b T (vs.set 0 v) := h.store 0 hi v
theorem BK.sets_ne (h : BK w b T vs) {A : Addr} (hc : b ≠ A.block) (i : Nat) (us : List Value) : BK (setCells w A i us) b T vs := by
  unfold BK
  rw [setCells_heap_ne us w A i hc]; exact h
theorem BK.alloc (h : BK w b T vs) (o : Obj) : BK (w.alloc o) b T vs := h.ext (ext_alloc w o)
/-- A variable that is made and filled. -/
theorem bk_mk {w1 w2 w3 : World} {z : List Value} (ha : w1.alloc (.cells z.toArray T) = w2) (hs : setCells w2 ⟨w1.heap.size, 0, none⟩ 0 vs = w3) (hz : z.length = vs.length) :
    canSt w2 ⟨w1.heap.size, 0, none⟩ vs.length ∧ BK w3 w1.heap.size T vs ∧ Ext w1 w3 ∧ w3.heap.size = w1.heap.size + 1 := by
  have h0 : BK w2 w1.heap.size T z := by rw [← ha]; exact BK.new w1 T z
  have e2 : Ext w1 w2 := by rw [← ha]; exact ext_alloc _ _
  refine ⟨h0.can (by omega), by rw [← hs]; exact h0.set hz.symm, by rw [← hs]; exact e2.setCells (p := ⟨w1.heap.size, 0, none⟩) (fun h => by simp at h) 0 vs, ?_⟩
  rw [← hs, setCells_size, ← ha]; simp
/-- What is made. -/
theorem bk_new {w1 w2 : World} (ha : w1.alloc (.cells vs.toArray T) = w2) : BK w2 w1.heap.size T vs ∧ Ext w1 w2 ∧ w2.heap.size = w1.heap.size + 1 :=
  ⟨by rw [← ha]; exact BK.new w1 T vs, by rw [← ha]; exact ext_alloc _ _, by rw [← ha]; simp⟩
/-- A block that is new since w0 is written whole. -/
theorem bk_put {w0 w1 w2 : World} {b : Nat} {us : List Value} (h : BK w1 b T vs) (he : Ext w0 w1) (hb : w0.heap.size ≤ b) (hs : setCells w1 ⟨b, 0, none⟩ 0 us = w2) (hu : us.length = vs.length) :
    canSt w1 ⟨b, 0, none⟩ us.length ∧ BK w2 b T us ∧ Ext w0 w2 ∧ w2.heap.size = w1.heap.size ∧ ∀ c T' vs', c ≠ b → BK w1 c T' vs' → BK w2 c T' vs' := by
  refine ⟨h.can (by omega), by rw [← hs]; exact h.set hu, by rw [← hs]; exact he.setCells (p := ⟨b, 0, none⟩) (fun h => by have h' : b < w0.heap.size := h; omega) 0 us, by rw [← hs, setCells_size], fun c T' vs' hc hk => ?_⟩
  rw [← hs]; exact hk.sets_ne (A := ⟨b, 0, none⟩) hc 0 us
end Go.Vc
/- sector.Seal and sector.Open. Conditions: those of each contract. -/
namespace Go.Vc
open Go
end Go.Vc
namespace Go.Proofs
open Go Go.Vc Go.Crc
/-- A block of bytes. -/
abbrev BB (w : World) (b : Nat) (T : TypeId) (l : List UInt8) : Prop := BK w b T (B8 l)
theorem BB.rd {w : World} {b : Nat} {T : TypeId} {l : List UInt8} (h : BB w b T l) (c : Nat) : RdB w ⟨some ⟨b, 0, none⟩, l.length, c⟩ l :=
  ⟨by rw [B8_length]; simp, fun h => by simp at h, fun A hA => by obtain rfl := Option.some.inj hA; exact h.all⟩
theorem BB.set {w : World} {b T i : Nat} {l : List UInt8} (h : BB w b T l) (x : UInt8) : BB (w.setCell (Addr.add ⟨b, 0, none⟩ i) (.int .u8 x.toNat)) b T (l.set i x) := by
  have := blk_set (o := i) h (.int .u8 x.toNat)
  rw [add_mk, Nat.zero_add]
  refine this.trans ?_
  simp [B8, List.map_set]
/-- New bytes: readable, in a block that was not there. -/
structure NewB (w w' : World) (s : SV) (l : List UInt8) : Prop where
  rd : RdB w' s l
  cap : s.len ≤ s.cap
  new : ∀ b, s.blk b → w.heap.size ≤ b ∧ b < w'.heap.size
theorem NewB.nil (w w' : World) : NewB w w' ⟨none, 0, 0⟩ [] := ⟨Rd.nil' _ _ _, by simp, by rintro b ⟨A, hA, _⟩; simp at hA⟩
theorem OwnB.newB {w w' : World} {s : SV} {l : List UInt8} (h : OwnB w' w.heap.size s l) : NewB w w' s l := ⟨h.rd, h.cap_le, fun _ hb => ⟨h.blk_ge hb, h.blk_lt hb⟩⟩
theorem NewB.ext {w w' w2 : World} {s : SV} {l : List UInt8} (h : NewB w w' s l) (e : Ext w' w2) : NewB w w2 s l := ⟨h.rd.ext e, h.cap, fun b hb => ⟨(h.new b hb).1, by have := (h.new b hb).2; have := e.size; omega⟩⟩
theorem NewB.to {w0 w w' : World} {s : SV} {l : List UInt8} (h : NewB w w' s l) (e : Ext w0 w) : NewB w0 w' s l := ⟨h.rd, h.cap, fun b hb => ⟨by have := (h.new b hb).1; have := e.size; omega, (h.new b hb).2⟩⟩
theorem NewB.upd {M : Nat → Prop} {w w' w2 : World} {s : SV} {l : List UInt8} (h : NewB w w' s l) (u : Upd M w' w2) (hm : ∀ b, s.blk b → ¬ M b) : NewB w w2 s l := ⟨h.rd.upd u hm, h.cap, fun b hb => ⟨(h.new b hb).1, by have := (h.new b hb).2; have := u.size; omega⟩⟩
theorem k_beq (k c : UInt8) : (((k.toNat : Nat) : Int) == ((c.toNat : Nat) : Int)) = (k == c) := by
  rw [Bool.eq_iff_iff, beq_iff_eq, beq_iff_eq, ← UInt8.toNat_inj]; omega
theorem known_walk (k : UInt8) {R : Bool → Prop} (hR : R (knownK k)) : cnd (((k.toNat : Nat) : Int) == 23) (cnd (((k.toNat : Nat) : Int) == 23) (R true) (R false)) (cnd (((k.toNat : Nat) : Int) == 43) (cnd (((k.toNat : Nat) : Int) == 43) (R true) (R false))
    (cnd (((k.toNat : Nat) : Int) == 77) (cnd (((k.toNat : Nat) : Int) == 77) (R true) (R false)) (cnd (((k.toNat : Nat) : Int) == 142) (cnd (((k.toNat : Nat) : Int) == 142) (R true) (R false)) (cnd (((k.toNat : Nat) : Int) == 113) (cnd (((k.toNat : Nat) : Int) == 113) (R true) (R false)) (cnd (((k.toNat : Nat) : Int) == 178) (R true) (R false)))))) := by
  have e1 : (((k.toNat : Nat) : Int) == 23) = (k == 23) := k_beq k 23
  have e2 : (((k.toNat : Nat) : Int) == 43) = (k == 43) := k_beq k 43
  have e3 : (((k.toNat : Nat) : Int) == 77) = (k == 77) := k_beq k 77
  have e4 : (((k.toNat : Nat) : Int) == 142) = (k == 142) := k_beq k 142
  have e5 : (((k.toNat : Nat) : Int) == 113) = (k == 113) := k_beq k 113
  have e6 : (((k.toNat : Nat) : Int) == 178) = (k == 178) := k_beq k 178
  rw [e1, e2, e3, e4, e5, e6]
  unfold knownK at hR
  generalize (k == 23) = b1 at *
  generalize (k == 43) = b2 at *
  generalize (k == 77) = b3 at *
  generalize (k == 142) = b4 at *
  generalize (k == 113) = b5 at *
  generalize (k == 178) = b6 at *
  cases b1
  · cases b2
    · cases b3
      · cases b4
        · cases b5
          · cases b6 <;> exact hR
          · exact hR
        · exact hR
      · exact hR
    · exact hR
  · exact hR
theorem sector_Known.spec (k : UInt8) (w : World) : CallT [.one .bool] Try.prog F.sector_Known [.int .u8 k.toNat] w fun r w' => r = knownK k ∧ w = w' :=
  sector_Known.vc (k.toNat : Int) w _ (known_walk k (R := fun r => r = knownK k ∧ w = w) ⟨rfl, rfl⟩)
end Go.Proofs
/- sector.Open, the document's Seal and Open. Conditions: those of each contract. -/
namespace Go.Proofs
open Go Go.Vc Go.Crc
@[reducible] def secV (x : Int × Int × SV) : List Value := [.int .u8 x.1, .int .u64 x.2.1, .slice x.2.2.a x.2.2.len x.2.2.cap]
@[reducible] def zSec : List Value := [.int .u8 0, .int .u64 0, .slice none 0 0]
def SecAns (R : SecR) (w : World) (r : (Int × Int × SV) × Int) (w' : World) : Prop :=
  r.1.1 = (R.1.1.toNat : Int) ∧ r.1.2.1 = (R.1.2.1 : Int) ∧ NewB w w' r.1.2.2 R.1.2.2 ∧ r.2 = R.2 ∧ Ext w w'
theorem right_get {b : List UInt8} (h : b.length = 512) : rightB b = true ↔ leV ((b.drop 508).take 4) = more 0 (b.take 508) := by
  have hq : (b.drop 508).length = 4 := by rw [List.length_drop]; omega
  have hml := more_lt (s := 0) (by decide) (b.take 508)
  have ht4 : (b.drop 508).take 4 = b.drop 508 := List.take_of_length_le (by omega)
  rw [rightB, if_neg (by omega), show b.length - 4 = 508 by omega, beq_iff_eq, behindB, ht4]
  conv => lhs; rhs; rw [← List.take_append_drop 508 b]
  rw [List.append_right_inj]
  constructor
  · intro h1
    rw [← h1, leV_leB, Nat.mod_eq_of_lt hml]
  · intro h1
    have := leB_leV (b.drop 508)
    rw [hq] at this
    rw [← h1, this]
theorem getB_ok {b : List UInt8} (h : b.length = 512) {a n : Nat} (hn : 1 ≤ n ∧ n ≤ 8) (ha : a + n ≤ 512) : getB b (a : Int) (n : Int) = (((leV ((b.drop a).take n) : Nat) : Int), 0) := by
  rw [getB, if_neg (by omega), if_neg (by omega)]; simp
theorem leV_take_lt (l : List UInt8) (n : Nat) : leV (l.take n) < 256 ^ n := by
  have h1 := leV_lt (l.take n)
  have h2 : (l.take n).length ≤ n := by simp; omega
  exact Nat.lt_of_lt_of_le h1 (Nat.pow_le_pow_right (by decide) h2)
def Bad (b : List UInt8) : Prop := knownK (b.getD 0 0) = false ∨ b.getD 1 0 ≠ 0 ∨ 496 < leV ((b.drop 2).take 2) ∨ allZ ((b.drop (12 + leV ((b.drop 2).take 2))).take (496 - leV ((b.drop 2).take 2))) = false
theorem openR_len {b : List UInt8} (h : b.length ≠ 512) : openR b = ((0, 0, []), 1) := by rw [openR, if_pos h]
theorem openR_zero {b : List UInt8} (h : b.length = 512) (hz : allZ b = true) : openR b = ((0, 0, []), 0) := by rw [openR, if_neg (by omega), if_pos hz]
theorem openR_sum {b : List UInt8} (h : b.length = 512) (hz : allZ b = false) (hr : rightB b = false) : openR b = ((0, 0, []), 30) := by rw [openR, if_neg (by omega), if_neg (by rw [hz]; simp), if_pos hr]
theorem openR_bad {b : List UInt8} (h : b.length = 512) (hz : allZ b = false) (hr : rightB b = true) (hb : Bad b) : openR b = ((0, 0, []), 11) := by rw [openR, if_neg (by omega), if_neg (by rw [hz]; simp), if_neg (by rw [hr]; simp)]; exact if_pos hb
theorem openR_ok {b : List UInt8} (h : b.length = 512) (hz : allZ b = false) (hr : rightB b = true) (hb : ¬ Bad b) : openR b = ((b.getD 0 0, leV ((b.drop 4).take 8), (b.drop 12).take (leV ((b.drop 2).take 2))), 0) := by
  rw [openR, if_neg (by omega), if_neg (by rw [hz]; simp), if_neg (by rw [hr]; simp)]; exact if_neg hb
/-- The answer is put into the result's variable. -/
theorem sec_out {w w' : World} {R : SecR} {b : Nat} {q : SV} {k t code : Int} (hb : BK w' b T.api_Sector zSec) (he : Ext w w') (hw : w.heap.size ≤ b) (hq : NewB w w' q R.1.2.2) (hne : ∀ c, q.blk c → c ≠ b) (h1 : k = (R.1.1.toNat : Int)) (h2 : t = (R.1.2.1 : Int)) (h3 : code = R.2) :
    canSt w' ⟨b, 0, none⟩ 3 ∧ ∃ x : Int × Int × SV, cellsAt (setCells w' ⟨b, 0, none⟩ 0 (secV (k, t, q))) ⟨b, 0, none⟩ (secV x) ∧ SecAns R w ((x.1, x.2.1, x.2.2), code) (setCells w' ⟨b, 0, none⟩ 0 (secV (k, t, q))) := by
  have u : Upd (fun x => x = b) w' (setCells w' ⟨b, 0, none⟩ 0 (secV (k, t, q))) := (Upd.refl (fun x => x = b) w').setCells (p := ⟨b, 0, none⟩) (fun _ => rfl) 0 _
  generalize hd : setCells w' _ 0 _ = w2 at *
  obtain ⟨c, b2, e2, z2, _⟩ := bk_put (us := secV (k, t, q)) hb he hw hd rfl
  exact ⟨c, (k, t, q), b2.all, h1, h2, hq.upd u hne, h3, e2⟩
theorem sec_err {w w' : World} {b : Nat} {code : Int} (hb : BK w' b T.api_Sector zSec) (he : Ext w w') (hw : w.heap.size ≤ b) :
    canSt w' ⟨b, 0, none⟩ 3 ∧ ∃ x : Int × Int × SV, cellsAt (setCells w' ⟨b, 0, none⟩ 0 [.int .u8 0, .int .u64 0, .slice none 0 0]) ⟨b, 0, none⟩ [.int .u8 x.1, .int .u64 x.2.1, .slice x.2.2.a x.2.2.len x.2.2.cap] ∧ SecAns ((0, 0, []), code) w ((x.1, x.2.1, x.2.2), code) (setCells w' ⟨b, 0, none⟩ 0 [.int .u8 0, .int .u64 0, .slice none 0 0]) :=
  sec_out (R := ((0, 0, []), code)) (k := 0) (t := 0) (q := ⟨none, 0, 0⟩) hb he hw (NewB.nil _ _) (fun c h => by obtain ⟨A, hA, _⟩ := h; simp at hA) (by simp) (by simp) rfl
set_option maxRecDepth 100000 in
theorem sector_Open.spec {w : World} {s : SV} {b : List UInt8} (hb : RdB w s b) (hc : s.len ≤ s.cap) (_hl : b.length ≤ 140737488351232) :
    CallT [.agg [.int .u8, .int .u64, .slice], .one (.int .i64)] Try.prog F.sector_Open [.slice s.a s.len s.cap] w fun r w' => SecAns (openR b) w r w' := by
  refine sector_Open.vc s w _ ?_
  have hsl := hb.lenB
  generalize hc1 : w.alloc _ = w1
  obtain ⟨b1, e1, z1⟩ := bk_new (T := T.api_Sector) (vs := zSec) hc1
  dsimp only
  refine cnd_bne (fun hne => ?_) (fun h512 => ?_)
  · rw [openR_len (by omega)]
    exact sec_err b1 e1 (Nat.le_refl _)
  have h512 : b.length = 512 := by omega
  refine CallT.mono (word_Zero.spec (hb.ext e1) (by omega)) ?_
  rintro _ w2 ⟨rfl, e2⟩
  have b2 := b1.ext e2
  have e02 := e1.tr e2
  cases hz : allZ b with
  | true =>
    refine cnd_pos rfl ?_
    rw [openR_zero h512 hz]
    exact sec_err b2 e02 (Nat.le_refl _)
  | false =>
  refine cnd_neg rfl ?_
  refine CallT.mono (word_Get.spec (hb.ext e02) hc (by omega) (a := 508) (n := 4) (by decide) (by decide)) ?_
  rintro _ w3 ⟨rfl, e3⟩
  rw [show getB b 508 4 = _ from getB_ok h512 (a := 508) (n := 4) (by decide) (by decide)]
  have e03 := e02.tr e3
  refine ⟨by decide, by omega, ?_⟩
  have hr := (hb.ext e03).subB hc (i := 0) (j := 508) (by decide) (by omega)
  rw [List.drop_zero] at hr
  refine CallT.mono (crc_Sum.spec hr (by simp; omega)) ?_
  rintro _ w4 ⟨rfl, e4⟩
  have e04 := e03.tr e4
  have b4 := (b2.ext e3).ext e4
  have hml := more_lt (s := 0) (by decide) (b.take 508)
  have hw : IntKind.u64.wrap ((more 0 (b.take (508 - 0)) : Nat) : Int) = ((more 0 (b.take 508) : Nat) : Int) := by rw [u64_mod]; simp only [Nat.sub_zero]; omega
  dsimp only
  rw [hw]
  refine cnd_bne (fun hne => ?_) (fun heq => ?_)
  · have hrf : rightB b = false := by
      cases hh : rightB b with
      | false => rfl
      | true => exact absurd (by rw [(right_get h512).1 hh]) hne
    rw [openR_sum h512 hz hrf]
    exact sec_err b4 e04 (Nat.le_refl _)
  have hrt : rightB b = true := (right_get h512).2 (by omega)
  refine CallT.mono (word_Get.spec (hb.ext e04) hc (by omega) (a := 2) (n := 2) (by decide) (by decide)) ?_
  rintro _ w5 ⟨rfl, e5⟩
  rw [show getB b 2 2 = _ from getB_ok h512 (a := 2) (n := 2) (by decide) (by decide)]
  have e05 := e04.tr e5
  have b5 := b4.ext e5
  have hb5 := hb.ext e05
  have hn2 := leV_take_lt (b.drop 2) 2
  have hB : ∀ P : Prop, (knownK (b.getD 0 0) = false → P) → (b.getD 1 0 ≠ 0 → P) → (496 < leV ((b.drop 2).take 2) → P) → (allZ ((b.drop (12 + leV ((b.drop 2).take 2))).take (496 - leV ((b.drop 2).take 2))) = false → P) → Bad b → P := fun P p1 p2 p3 p4 h => by
    rcases h with h | h | h | h
    · exact p1 h
    · exact p2 h
    · exact p3 h
    · exact p4 h
  have hBi : ∀ {P : Prop}, (P → Bad b) → P → Bad b := fun h => h
  have g0 : b[0]? = some (b.getD 0 0) := by rw [List.getD_eq_getElem?_getD, List.getElem?_eq_getElem (by omega)]; rfl
  have g1 : b[1]? = some (b.getD 1 0) := by rw [List.getD_eq_getElem?_getD, List.getElem?_eq_getElem (by omega)]; rfl
  have hbad : Bad b ↔ (knownK (b.getD 0 0) = false ∨ b.getD 1 0 ≠ 0 ∨ 496 < leV ((b.drop 2).take 2) ∨ allZ ((b.drop (12 + leV ((b.drop 2).take 2))).take (496 - leV ((b.drop 2).take 2))) = false) := Iff.rfl
  have hok := openR_ok h512 hz hrt
  have hno := openR_bad h512 hz hrt
  generalize b.getD 0 0 = k0 at *
  generalize b.getD 1 0 = k1 at *
  generalize leV ((b.drop 2).take 2) = n at *
  generalize Bad b = G at *
  have hwn : n ≤ 496 → IntKind.u64.wrap (12 + (n : Int)) = ((12 + n : Nat) : Int) := fun h => by rw [u64_mod]; omega
  refine ⟨fun _ w' => BK w' w.heap.size T.api_Sector zSec ∧ Ext w w' ∧ ¬ G, ⟨fun x w' => BK w' w.heap.size T.api_Sector zSec ∧ Ext w w' ∧ (x = true ↔ G), ⟨by decide, by omega, SV.getB hb5 (i := 0) (by omega) fun A hA => ⟨(k0.toNat : Int), hb5.cellB g0 hA, CallT.mono (sector_Known.spec k0 w5) ?_⟩⟩, ?_⟩, ?_⟩
  · rintro _ _ ⟨rfl, rfl⟩
    refine cnd_not (fun hk => ⟨b5, e05, by rw [hbad]; simp [hk]⟩) (fun hk => ⟨by decide, by omega, SV.getB hb5 (i := 1) (by omega) fun A hA => ⟨(k1.toNat : Int), hb5.cellB g1 hA, cnd_bne (fun h1 => ⟨b5, e05, ?_⟩) fun h1 => cnd_dec (fun h2 => ⟨b5, e05, ?_⟩) fun h2 => ?_⟩⟩)
    · rw [hbad]
      have : k1 ≠ 0 := by rintro rfl; exact h1 rfl
      simp [this]
    · rw [hbad]
      have : 496 < n := by omega
      simp [this]
    · have hn : n ≤ 496 := by omega
      rw [hwn hn]
      refine ⟨by decide, by omega, by omega, by simp; omega, ?_⟩
      have hr2 := hb5.subB hc (i := 12 + n) (j := 508) (by omega) (by omega)
      rw [show 508 - (12 + n) = 496 - n by omega] at hr2
      simp only [Int.toNat_natCast]
      have h508 : Int.toNat 508 - (12 + n) = 496 - n := by simp; omega
      rw [h508]
      refine CallT.mono (word_Zero.spec hr2 (by simp; omega)) ?_
      rintro _ w6 ⟨rfl, e6⟩
      refine ⟨b5.ext e6, e05.tr e6, ?_⟩
      rw [hbad]
      have hk1 : k1 = 0 := by rw [← UInt8.toNat_inj]; simpa using h1
      have hn' : ¬ 496 < n := by omega
      simp [hk, hk1, hn']
  · rintro x _ w6 ⟨b6, e6, hx⟩
    cases x with
    | true =>
      refine cnd_pos rfl ?_
      rw [hno (hx.1 rfl)]
      exact sec_err b6 e6 (Nat.le_refl _)
    | false => exact cnd_neg rfl ⟨b6, e6, fun g => by have := hx.2 g; simp at this⟩
  rintro _ _ w6 ⟨b6, e6, hG⟩
  have hn : n ≤ 496 := by rw [hbad] at hG; omega
  refine CallT.mono (word_Get.spec (hb.ext e6) hc (by omega) (a := 4) (n := 8) (by decide) (by decide)) ?_
  rintro _ w7 ⟨rfl, e7⟩
  rw [show getB b 4 8 = _ from getB_ok h512 (a := 4) (n := 8) (by decide) (by decide), hok hG]
  have e07 := (e6.tr e7).tr (ext_drew w7)
  have b7 := (b6.ext e7).ext (ext_drew w7)
  have hb7 := hb.ext e07
  refine ⟨fun w' => RdB w' s b, hb7, by decide, by omega, SV.getB hb7 (i := 0) (by omega) fun A hA => ⟨(k0.toNat : Int), fun w' hw' => hw'.cellB g0 hA, ?_⟩⟩
  generalize w7.drew = w8 at *
  rw [hwn hn]
  refine ⟨by omega, by omega, by decide, by simp; omega, ?_⟩
  have hr3 := hb7.subB hc (i := 12) (j := 12 + n) (by omega) (by omega)
  simp only [Int.toNat_natCast]
  rw [show 12 + n - 12 = n by omega] at hr3
  rw [show 12 + n - Int.toNat 12 = n by simp]
  refine CallT.mono (slices_Clone_byte_byte.spec hr3 (by simp; omega)) ?_
  rintro q w9 ⟨hq, e9, _⟩
  have e09 := e07.tr e9
  refine ⟨hb7.ext e9, ?_⟩
  refine sec_out (b7.ext e9) e09 (Nat.le_refl _) (hq.newB.to e07) (fun c h hcb => ?_) rfl rfl rfl
  have := hq.blk_ge h
  have := b7.lt
  omega
end Go.Proofs
/- The document's Seal, Open and Good; sector.Good. Conditions: those of each contract. -/
namespace Go.Proofs
open Go Go.Vc Go.Crc
theorem sector_Good.spec {w : World} {s : SV} {b : List UInt8} (hb : RdB w s b) (hc : s.len ≤ s.cap) (hl : b.length ≤ 140737488351232) :
    CallT [.one .bool] Try.prog F.sector_Good [.slice s.a s.len s.cap] w fun r w' => r = decide ((openR b).2 = 0) ∧ Ext w w' := by
  refine sector_Good.vc s w _ (CallT.mono (sector_Open.spec hb hc hl) ?_)
  rintro ⟨⟨k, t, q⟩, e⟩ w1 ⟨_, _, _, he, e1⟩
  dsimp only at he ⊢
  generalize hc1 : w1.alloc _ = w2
  generalize hd1 : setCells w2 _ 0 _ = w3
  obtain ⟨c3, _, e3, _⟩ := bk_mk (T := T.api_Sector) (z := zSec) (vs := secV (k, t, q)) hc1 hd1 rfl
  refine ⟨c3, ?_, e1.tr e3⟩
  rw [he, Bool.eq_iff_iff]; simp
end Go.Proofs
/- layout: what Plan, Region, Segment, Capacity, Phys, Logic, LogAt tell, by the program and by the reference. Conditions: those of each contract. -/
namespace Go.Proofs
open Go Go.Vc

abbrev L9 := Int × Int × Int × Int × Int × Int × Int × Int × Int
@[reducible] def L9.vs (x : L9) : List Value := [.int .i64 x.1, .int .i64 x.2.1, .int .i64 x.2.2.1, .int .i64 x.2.2.2.1, .int .i64 x.2.2.2.2.1, .int .i64 x.2.2.2.2.2.1, .int .i64 x.2.2.2.2.2.2.1, .int .i64 x.2.2.2.2.2.2.2.1, .int .i64 x.2.2.2.2.2.2.2.2]
@[reducible] def L9.v (x : L9) : Value := .agg x.vs.toArray
/-- A block that holds a layout. -/
def LB (w : World) (b : Nat) (x : L9) : Prop := w.heap[b]? = some (.cells x.vs.toArray T.api_Layout (0, 0))
theorem LB.new (w : World) (x : L9) : LB (w.alloc (.cells x.vs.toArray T.api_Layout)) w.heap.size x := blk_new _ _
theorem LB.all {w : World} {b : Nat} {x : L9} (h : LB w b x) : cellsAt w ⟨b, 0, none⟩ x.vs := cellsAt_blk h fun j v hv => by simpa using hv
theorem LB.get {w : World} {b : Nat} {x : L9} (h : LB w b x) (i : Nat) {v : Value} (hv : x.vs[i]? = some v) : w.cell? (Addr.add ⟨b, 0, none⟩ i) = some v := by
  rw [add_mk, cell_blk h, Nat.zero_add]; simpa using hv
theorem LB.upd {M : Nat → Prop} {w w' : World} {b : Nat} {x : L9} (h : LB w b x) (u : Upd M w w') (hm : ¬ M b) : LB w' b x := u.get h hm
theorem LB.ext {w w' : World} {b : Nat} {x : L9} (h : LB w b x) (u : Ext w w') : LB w' b x := h.upd u id
theorem LB.can {w : World} {b : Nat} {x : L9} (h : LB w b x) : canSt w ⟨b, 0, none⟩ 9 := canSt_blk (c := x.vs) h (by simp)
theorem LB.set {w : World} {b : Nat} {x : L9} (h : LB w b x) (y : L9) : LB (setCells w ⟨b, 0, none⟩ 0 y.vs) b y := by
  have := setCells_blk (o := 0) y.vs w 0 x.vs h (by simp)
  simpa [spl, LB] using this
theorem LB.lt {w : World} {b : Nat} {x : L9} (h : LB w b x) : b < w.heap.size := lt_of_blk h

/-! ### Plan -/
structure PL (n q s : Int) : Prop where
  n1 : 256 ≤ n
  n2 : n ≤ 65536
  q1 : 8 * q ≤ n - 13
  q2 : n - 13 < 8 * q + 8
  s1 : 32 * s ≤ n - 13 - 3 * q
  s2 : n - 13 - 3 * q < 32 * s + 32
@[reducible] def lay (n q s : Int) : L9 := (n, 3, 13, q, 13 + q, 13 + 2 * q, q, 13 + 3 * q, s)
@[reducible] def lay0 : L9 := (0, 0, 0, 0, 0, 0, 0, 0, 0)
def planF (n : Int) : L9 × Int := if n < 256 ∨ n > 65536 then (lay0, 1) else (lay n ((n - 13) / 8) ((n - 13 - 3 * ((n - 13) / 8)) / 32), 0)
theorem planF_bad {n : Int} (h : n < 256 ∨ n > 65536) : planF n = (lay0, 1) := if_pos h
theorem planF_ok {n : Int} (h : ¬ (n < 256 ∨ n > 65536)) : ∃ q s, PL n q s ∧ planF n = (lay n q s, 0) :=
  ⟨_, _, ⟨by omega, by omega, by omega, by omega, by omega, by omega⟩, if_neg h⟩
theorem planF_cases (n : Int) : (planF n = (lay0, 1)) ∨ ∃ q s, PL n q s ∧ planF n = (lay n q s, 0) := by
  by_cases h : n < 256 ∨ n > 65536
  · exact .inl (planF_bad h)
  · exact .inr (planF_ok h)
theorem layout_Plan.spec (n : Int) (w : World) :
    CallT [.agg [.int .i64, .int .i64, .int .i64, .int .i64, .int .i64, .int .i64, .int .i64, .int .i64, .int .i64], .one (.int .i64)] Try.prog F.layout_Plan [.int .i64 n] w fun r w' => r = planF n ∧ Ext w w' := by
  refine layout_Plan.vc n w _ ?_
  generalize hw_w1 : w.alloc _ = w1
  have h0 : LB w1 w.heap.size lay0 := by rw [← hw_w1]; exact LB.new w lay0
  have e0 : Ext w w1 := by rw [← hw_w1]; exact ext_alloc _ _
  have es : ∀ y : L9, Ext w (setCells w1 ⟨w.heap.size, 0, none⟩ 0 y.vs) := fun y => e0.setCells (p := ⟨w.heap.size, 0, none⟩) (fun h => by simp at h) 0 y.vs
  refine ⟨fun _ w' => w' = w1 ∧ ¬ (n < 256 ∨ n > 65536), ⟨fun b w' => w' = w1 ∧ (b = true ↔ (n < 256 ∨ n > 65536)), ?_, ?_⟩, ?_⟩
  · exact cnd_dec (fun h => ⟨rfl, by simp [h]⟩) (fun h => ⟨rfl, by simp [h]⟩)
  · rintro b _ _ ⟨rfl, hb⟩
    refine cnd_intro (fun ht => ?_) (fun hf => ⟨rfl, fun h => by rw [hb.2 h] at hf; cases hf⟩)
    refine ⟨h0.can, lay0, (h0.set lay0).all, ?_, es lay0⟩
    rw [planF_bad (hb.1 ht)]
  · rintro _ _ _ ⟨rfl, hn⟩
    have hq : IntKind.i64.wrap ((IntKind.i64.wrap (n - 13)).tdiv 8) = (n - 13) / 8 := by
      rw [i64_id (x := n - 13) (by omega) (by omega), Int.tdiv_eq_ediv_of_nonneg (by omega), i64_id (by omega) (by omega)]
    intro e1
    have he1 : e1 = 3 * ((n - 13) / 8) := by
      show IntKind.i64.wrap (3 * IntKind.i64.wrap ((IntKind.i64.wrap (n - 13)).tdiv 8)) = _
      rw [hq, i64_id (by omega) (by omega)]
    have hs : IntKind.i64.wrap ((IntKind.i64.wrap (n - IntKind.i64.wrap (13 + e1))).tdiv 32) = (n - 13 - 3 * ((n - 13) / 8)) / 32 := by
      rw [he1, i64_id (x := 13 + 3 * ((n - 13) / 8)) (by omega) (by omega), i64_id (x := n - (13 + 3 * ((n - 13) / 8))) (by omega) (by omega), Int.tdiv_eq_ediv_of_nonneg (by omega), i64_id (by omega) (by omega)]
      congr 1; omega
    rw [hs, hq, he1, i64_id (x := 13 + (n - 13) / 8) (by omega) (by omega), i64_id (x := 2 * ((n - 13) / 8)) (by omega) (by omega), i64_id (x := 13 + 2 * ((n - 13) / 8)) (by omega) (by omega), i64_id (x := 13 + 3 * ((n - 13) / 8)) (by omega) (by omega)]
    have hp : planF n = (lay n ((n - 13) / 8) ((n - 13 - 3 * ((n - 13) / 8)) / 32), 0) := if_neg hn
    refine ⟨h0.can, _, (h0.set (lay n ((n - 13) / 8) ((n - 13 - 3 * ((n - 13) / 8)) / 32))).all, ?_, es (lay n ((n - 13) / 8) ((n - 13 - 3 * ((n - 13) / 8)) / 32))⟩
    rw [hp]

/-! ### Region -/
def regP (n q s at_ : Int) : Int :=
  if at_ < 0 ∨ n ≤ at_ then 0 else if at_ < 2 then 1 else if at_ < 3 then 2 else if at_ < 13 then 3 else if at_ < 13 + q then 4 else if at_ < 13 + 2 * q then 5 else if at_ < 13 + 3 * q then 6 else if at_ < 13 + 3 * q + 32 * s then 7 else 0
/-- The regions: kind, from, how many. -/
def regs (q s : Int) : List (Int × Int × Int) := [(1, 0, 2), (2, 2, 1), (3, 3, 10), (4, 13, q), (5, 13 + q, q), (6, 13 + 2 * q, q), (7, 13 + 3 * q, 32 * s)]
def regV (q s : Int) : List Value := (regs q s).flatMap fun r => [.int .i64 r.1, .int .i64 r.2.1, .int .i64 r.2.2]
theorem layout_regions.spec {n q s : Int} (hp : PL n q s) (w : World) :
    CallT [.one .slice] Try.prog F.layout_regions [(lay n q s).v] w fun r w' => Ext w w' ∧ ∃ b, r = ⟨some ⟨b, 0, none⟩, 7, 7⟩ ∧ w.heap.size ≤ b ∧ w'.heap[b]? = some (.cells (regV q s).toArray T.layout_region (0, 0)) := by
  obtain ⟨n1, n2, q1, q2, s1, s2⟩ := hp
  refine layout_regions.vc (lay n q s) w _ ?_
  dsimp only [lay]
  generalize hw_w1 : w.alloc _ = w1
  have h0 : LB w1 w.heap.size (lay n q s) := by rw [← hw_w1]; exact LB.new w (lay n q s)
  have e0 : Ext w w1 := by rw [← hw_w1]; exact ext_alloc _ _
  refine ⟨3, h0.get 1 rfl, 13, h0.get 2 rfl, q, h0.get 3 rfl, by omega, by omega, 13 + q, h0.get 4 rfl, q, h0.get 6 rfl, by omega, by omega, 13 + 2 * q, by rw [add_add]; exact h0.get 5 rfl, q, h0.get 6 rfl, 13 + 3 * q, h0.get 7 rfl, s, h0.get 8 rfl, e0.alloc _, w1.heap.size, rfl, e0.size, ?_⟩
  · rw [blk_new, i64_id (by omega) (by omega), Int.mul_comm s 32]
    rfl
theorem regV_get (q s : Int) {i : Nat} (h : i < 7) (r : Int × Int × Int) (hr : (regs q s)[i]? = some r) : ∀ j v, ([Value.int .i64 r.1, .int .i64 r.2.1, .int .i64 r.2.2] : List Value)[j]? = some v → (regV q s).toArray[i * 3 + j]? = some v := by
  intro j v hv
  have hj : j < 3 := by
    rcases Nat.lt_or_ge j 3 with h | h
    · exact h
    · rw [List.getElem?_eq_none (by simpa using h)] at hv; simp at hv
  match i, h, j, hj with
  | 0, _, 0, _ | 0, _, 1, _ | 0, _, 2, _ | 1, _, 0, _ | 1, _, 1, _ | 1, _, 2, _ | 2, _, 0, _ | 2, _, 1, _ | 2, _, 2, _ | 3, _, 0, _ | 3, _, 1, _ | 3, _, 2, _
  | 4, _, 0, _ | 4, _, 1, _ | 4, _, 2, _ | 5, _, 0, _ | 5, _, 1, _ | 5, _, 2, _ | 6, _, 0, _ | 6, _, 1, _ | 6, _, 2, _ =>
    (have := Option.some.inj hr; subst this; exact hv)
def inR (r : Int × Int × Int) (x : Int) : Prop := r.2.1 ≤ x ∧ x < r.2.1 + r.2.2
theorem regs_mem {q s : Int} {i : Nat} {r : Int × Int × Int} (h : (regs q s)[i]? = some r) :
    (i = 0 ∧ r = (1, 0, 2)) ∨ (i = 1 ∧ r = (2, 2, 1)) ∨ (i = 2 ∧ r = (3, 3, 10)) ∨ (i = 3 ∧ r = (4, 13, q)) ∨ (i = 4 ∧ r = (5, 13 + q, q)) ∨ (i = 5 ∧ r = (6, 13 + 2 * q, q)) ∨ (i = 6 ∧ r = (7, 13 + 3 * q, 32 * s)) := by
  match i with
  | 0 | 1 | 2 | 3 | 4 | 5 | 6 => have := Option.some.inj h; subst this; simp
  | k + 7 => simp [regs] at h
theorem regP_of {n q s x : Int} (hp : PL n q s) {i : Nat} {r : Int × Int × Int} (h : (regs q s)[i]? = some r) (hr : inR r x) : regP n q s x = r.1 := by
  obtain ⟨n1, n2, q1, q2, s1, s2⟩ := hp
  obtain ⟨h1, h2⟩ := hr
  rcases regs_mem h with ⟨_, rfl⟩ | ⟨_, rfl⟩ | ⟨_, rfl⟩ | ⟨_, rfl⟩ | ⟨_, rfl⟩ | ⟨_, rfl⟩ | ⟨_, rfl⟩ <;> simp only at h1 h2 ⊢ <;> unfold regP <;> (repeat' split) <;> omega
theorem regP_none {n q s x : Int} (hp : PL n q s) (h : x < 0 ∨ n ≤ x ∨ ∀ r ∈ regs q s, ¬ inR r x) : regP n q s x = 0 := by
  obtain ⟨n1, n2, q1, q2, s1, s2⟩ := hp
  rcases h with h | h | h
  · unfold regP; rw [if_pos (.inl h)]
  · unfold regP; rw [if_pos (.inr h)]
  · simp only [regs, List.mem_cons, List.not_mem_nil, or_false, forall_eq_or_imp, forall_eq, inR] at h
    unfold regP
    (repeat' split) <;> omega
theorem layout_Region.spec {n q s : Int} (hp : PL n q s) (x : Int) (w : World) :
    CallT [.one (.int .i64)] Try.prog F.layout_Region [(lay n q s).v, .int .i64 x] w fun r w' => r = regP n q s x ∧ Ext w w' := by
  refine layout_Region.vc (lay n q s) x w _ ?_
  dsimp only [lay]
  generalize hw_w1 : w.alloc _ = w1
  have h0 : LB w1 w.heap.size (lay n q s) := by rw [← hw_w1]; exact LB.new w (lay n q s)
  have e0 : Ext w w1 := by rw [← hw_w1]; exact ext_alloc _ _
  refine ⟨_, h0.all, CallT.mono (layout_regions.spec hp w1) ?_⟩
  rintro _ w2 ⟨e2, b, rfl, hbs, hb⟩
  have e02 := e0.tr e2
  refine ⟨fun m i w' => ∃ k : Nat, i = k ∧ m = 7 - k ∧ k ≤ 7 ∧ Ext w2 w' ∧ ∀ j, j < k → ∀ r, (regs q s)[j]? = some r → ¬ inR r x, ⟨_, 0, rfl, rfl, by omega, Upd.refl _ _, fun j hj => by omega⟩, ?_⟩
  rintro m i _ w3 ⟨k, rfl, rfl, hk, e3, hno⟩
  have e03 := e02.tr e3
  have h3 := (h0.ext e2).ext e3
  refine ⟨fun _ w' => k < 7 ∧ w3 = w', ?_, ?_⟩
  · refine cnd_dec (fun hlt => ?_) (fun hge => ?_)
    · have hk7 : k < 7 := by simp at hlt; omega
      refine cnd_dec (fun hx => ?_) (fun hx => ⟨(regP_none hp (.inl (by omega))).symm, e03⟩)
      exact ⟨n, h3.get 0 rfl, cnd_dec (fun hx => ⟨hk7, rfl⟩) (fun hx => ⟨(regP_none hp (.inr (.inl (by omega)))).symm, e03⟩)⟩
    · have hk7 : k = 7 := by simp at hge; omega
      subst hk7
      refine ⟨(regP_none hp (.inr (.inr fun r hr => ?_))).symm, e03⟩
      obtain ⟨j, hj, rfl⟩ := List.getElem_of_mem hr
      exact hno j (by simpa [regs] using hj) _ (List.getElem?_eq_getElem hj)
  · rintro _ _ _ ⟨hk7, rfl⟩
    obtain ⟨r, hr⟩ : ∃ r, (regs q s)[k]? = some r := ⟨_, List.getElem?_eq_getElem (by simpa [regs] using hk7)⟩
    have hb3 := e3.get hb
    refine ⟨by omega, by simp; omega, ?_⟩
    simp only [onP_some, Int.toNat_natCast, add_mk, Nat.zero_add]
    refine ⟨r, cellsAt_blk hb3 (regV_get q s hk7 r hr), ?_⟩
    have hn := blk_new w3 (.cells #[.int .i64 0, .int .i64 0, .int .i64 0] T.layout_region)
    have he := ext_alloc w3 (.cells #[.int .i64 0, .int .i64 0, .int .i64 0] T.layout_region)
    refine ⟨canSt_blk (c := [.int .i64 0, .int .i64 0, .int .i64 0]) hn (by simp), ?_⟩
    have hn2 := setCells_blk (o := 0) [.int .i64 r.1, .int .i64 r.2.1, .int .i64 r.2.2] _ 0 [.int .i64 0, .int .i64 0, .int .i64 0] hn (by simp)
    have he2 := he.setCells (p := ⟨w3.heap.size, 0, none⟩) (fun h => by simp at h) 0 [.int .i64 r.1, .int .i64 r.2.1, .int .i64 r.2.2]
    generalize setCells (w3.alloc (.cells #[.int .i64 0, .int .i64 0, .int .i64 0] T.layout_region)) ⟨w3.heap.size, 0, none⟩ 0 [.int .i64 r.1, .int .i64 r.2.1, .int .i64 r.2.2] = w4 at hn2 he2
    have hw : IntKind.i64.wrap (r.2.1 + r.2.2) = r.2.1 + r.2.2 := by
      obtain ⟨n1, n2, q1, q2, s1, s2⟩ := hp
      rcases regs_mem hr with ⟨_, rfl⟩ | ⟨_, rfl⟩ | ⟨_, rfl⟩ | ⟨_, rfl⟩ | ⟨_, rfl⟩ | ⟨_, rfl⟩ | ⟨_, rfl⟩ <;> simp only <;> rw [i64_id] <;> omega
    have next : ¬ inR r x → ∃ m, m < 7 - k ∧ ∃ k' : Nat, IntKind.i64.wrap ((k : Int) + 1) = k' ∧ m = 7 - k' ∧ k' ≤ 7 ∧ Ext w2 w4 ∧ ∀ j, j < k' → ∀ r, (regs q s)[j]? = some r → ¬ inR r x := fun hx =>
      ⟨_, by omega, k + 1, by rw [i64_id] <;> omega, rfl, by omega, e3.tr he2, fun j hj r' hr' => by
        rcases Nat.lt_succ_iff_lt_or_eq.1 hj with h | rfl
        · exact hno j h r' hr'
        · rw [hr] at hr'; cases hr'; exact hx⟩
    refine ⟨r.2.1, by rw [cell_blk hn2]; rfl, cnd_dec (fun h1 => ?_) (fun h1 => next fun h => by have := h.1; omega)⟩
    refine ⟨r.2.1, by rw [cell_blk hn2]; rfl, r.2.2, by rw [cell_blk hn2]; rfl, ?_⟩
    rw [hw]
    refine cnd_dec (fun h2 => ?_) (fun h2 => next fun h => by have := h.2; omega)
    exact ⟨r.1, by rw [cell_blk hn2]; rfl, (regP_of hp hr ⟨by omega, h2⟩).symm, e03.tr he2⟩
theorem dunnageref05_in.spec {a b c : Int} (h1 : 0 ≤ b) (h2 : b ≤ 1000000) (h3 : 0 ≤ c) (h4 : c ≤ 1000000) (w : World) :
    CallT [.one .bool] Try.prog F.dunnageref05_in [.int .i64 a, .int .i64 b, .int .i64 c] w fun r w' => r = decide (b ≤ a ∧ a < b + c) ∧ w = w' := by
  refine dunnageref05_in.vc a b c w _ ?_
  rw [i64_id (by omega) (by omega)]
  refine cnd_dec (fun h => ⟨by congr 1; simp; omega, rfl⟩) (fun h => ⟨by simp; omega, rfl⟩)
theorem dunnageref05_Region.spec {n q s : Int} (hp : PL n q s) (x : Int) (w : World) :
    CallT [.one (.int .i64)] Try.prog F.dunnageref05_Region [(lay n q s).v, .int .i64 x] w fun r w' => r = regP n q s x ∧ Ext w w' := by
  refine dunnageref05_Region.vc (lay n q s) x w _ ?_
  dsimp only [lay]
  generalize hw_w1 : w.alloc _ = w1
  have h0 : LB w1 w.heap.size (lay n q s) := by rw [← hw_w1]; exact LB.new w (lay n q s)
  have e0 : Ext w w1 := by rw [← hw_w1]; exact ext_alloc _ _
  have hp' := hp
  obtain ⟨n1, n2, q1, q2, s1, s2⟩ := hp'
  have go : ∀ {i : Nat} {r : Int × Int × Int}, (regs q s)[i]? = some r → (decide (r.2.1 ≤ x ∧ x < r.2.1 + r.2.2)) = true → r.1 = regP n q s x := fun hr h => (regP_of hp hr (by simpa [inR] using h)).symm
  refine CallT.mono (dunnageref05_in.spec (by omega) (by omega) (by omega) (by omega) w1) ?_
  rintro _ _ ⟨rfl, rfl⟩
  refine cnd_intro (fun h => ⟨go (i := 0) rfl h, e0⟩) (fun a1 => ?_)
  refine cnd_beq (fun h => ⟨go (i := 1) rfl (by simp; omega), e0⟩) (fun a2 => ?_)
  refine ⟨3, h0.get 1 rfl, CallT.mono (dunnageref05_in.spec (by omega) (by omega) (by omega) (by omega) w1) ?_⟩
  rintro _ _ ⟨rfl, rfl⟩
  refine cnd_intro (fun h => ⟨go (i := 2) rfl h, e0⟩) (fun a3 => ?_)
  refine ⟨13, h0.get 2 rfl, q, h0.get 3 rfl, CallT.mono (dunnageref05_in.spec (by omega) (by omega) (by omega) (by omega) w1) ?_⟩
  rintro _ _ ⟨rfl, rfl⟩
  refine cnd_intro (fun h => ⟨go (i := 3) rfl h, e0⟩) (fun a4 => ?_)
  refine ⟨by omega, by omega, 13 + q, h0.get 4 rfl, q, h0.get 6 rfl, CallT.mono (dunnageref05_in.spec (by omega) (by omega) (by omega) (by omega) w1) ?_⟩
  rintro _ _ ⟨rfl, rfl⟩
  refine cnd_intro (fun h => ⟨go (i := 4) rfl h, e0⟩) (fun a5 => ?_)
  refine ⟨by omega, by omega, 13 + 2 * q, by rw [add_add]; exact h0.get 5 rfl, q, h0.get 6 rfl, CallT.mono (dunnageref05_in.spec (by omega) (by omega) (by omega) (by omega) w1) ?_⟩
  rintro _ _ ⟨rfl, rfl⟩
  refine cnd_intro (fun h => ⟨go (i := 5) rfl h, e0⟩) (fun a6 => ?_)
  refine ⟨13 + 3 * q, h0.get 7 rfl, s, h0.get 8 rfl, ?_⟩
  rw [i64_id (x := s * 32) (by omega) (by omega), Int.mul_comm s 32]
  refine CallT.mono (dunnageref05_in.spec (by omega) (by omega) (by omega) (by omega) w1) ?_
  rintro _ _ ⟨rfl, rfl⟩
  refine cnd_intro (fun h => ⟨go (i := 6) rfl h, e0⟩) (fun a7 => ?_)
  refine ⟨(regP_none hp (.inr (.inr ?_))).symm, e0⟩
  simp only [decide_eq_false_iff_not] at a1 a3 a4 a5 a6 a7
  simp only [regs, List.mem_cons, List.not_mem_nil, or_false, forall_eq_or_imp, forall_eq, inR]
  refine ⟨a1, by omega, a3, a4, a5, a6, a7⟩

/-! ### Segment, Capacity, LogAt -/
/-! ### Phys, Logic -/
def logicF (n q s x : Int) : Int × Bool := if regP n q s x = 7 ∧ (x - (13 + 3 * q)) % 32 ≠ 0 then ((x - (13 + 3 * q)) / 32 * 31 + (x - (13 + 3 * q)) % 32 - 1, true) else (0, false)
theorem regP_seven {n q s x : Int} (hp : PL n q s) : regP n q s x = 7 ↔ 13 + 3 * q ≤ x ∧ x < 13 + 3 * q + 32 * s := by
  obtain ⟨n1, n2, q1, q2, s1, s2⟩ := hp
  unfold regP
  (repeat' split) <;> omega
theorem logicF_in {n q s x : Int} (hp : PL n q s) (h : regP n q s x = 7) : IntKind.i64.wrap (x - (13 + 3 * q)) = x - (13 + 3 * q) ∧ (x - (13 + 3 * q)).tmod 32 = (x - (13 + 3 * q)) % 32 ∧
    IntKind.i64.wrap (IntKind.i64.wrap (IntKind.i64.wrap (IntKind.i64.wrap ((x - (13 + 3 * q)).tdiv 32) * 31) + (x - (13 + 3 * q)) % 32) - 1) = (x - (13 + 3 * q)) / 32 * 31 + (x - (13 + 3 * q)) % 32 - 1 := by
  have h7 := (regP_seven hp).1 h
  obtain ⟨n1, n2, q1, q2, s1, s2⟩ := hp
  have h0 : 0 ≤ x - (13 + 3 * q) := by omega
  generalize hy : x - (13 + 3 * q) = y at *
  refine ⟨by rw [i64_id] <;> omega, Int.tmod_eq_emod_of_nonneg h0, ?_⟩
  rw [Int.tdiv_eq_ediv_of_nonneg h0, i64_id (x := y / 32) (by omega) (by omega), i64_id (x := y / 32 * 31) (by omega) (by omega), i64_id (x := y / 32 * 31 + y % 32) (by omega) (by omega), i64_id (by omega) (by omega)]
theorem layout_Logic.spec {n q s : Int} (hp : PL n q s) (x : Int) (w : World) :
    CallT [.one (.int .i64), .one .bool] Try.prog F.layout_Logic [(lay n q s).v, .int .i64 x] w fun r w' => r = logicF n q s x ∧ Ext w w' := by
  refine layout_Logic.vc (lay n q s) x w _ ?_
  dsimp only [lay]
  generalize hw_w1 : w.alloc _ = w1
  have h0 : LB w1 w.heap.size (lay n q s) := by rw [← hw_w1]; exact LB.new w (lay n q s)
  have e0 : Ext w w1 := by rw [← hw_w1]; exact ext_alloc _ _
  refine ⟨_, h0.all, CallT.mono (layout_Region.spec hp x w1) ?_⟩
  rintro _ w2 ⟨rfl, e2⟩
  have e02 := e0.tr e2
  have h2 := h0.ext e2
  refine cnd_bne (fun h => ⟨by rw [logicF, if_neg (fun k => h k.1)], e02⟩) (fun h => ?_)
  obtain ⟨a, b, c⟩ := logicF_in hp h
  refine ⟨13 + 3 * q, h2.get 7 rfl, 13 + 3 * q, h2.get 7 rfl, ?_⟩
  rw [a, b, c]
  refine cnd_beq (fun k => ⟨by rw [logicF, if_neg (fun l => l.2 k)], e02.drew⟩) (fun k => ⟨by rw [logicF, if_pos ⟨h, k⟩], e02.drew⟩)
theorem dunnageref05_Logic.spec {n q s : Int} (hp : PL n q s) (x : Int) (w : World) :
    CallT [.one (.int .i64), .one .bool] Try.prog F.dunnageref05_Logic [(lay n q s).v, .int .i64 x] w fun r w' => r = logicF n q s x ∧ Ext w w' := by
  refine dunnageref05_Logic.vc (lay n q s) x w _ ?_
  dsimp only [lay]
  generalize hw_w1 : w.alloc _ = w1
  have h0 : LB w1 w.heap.size (lay n q s) := by rw [← hw_w1]; exact LB.new w (lay n q s)
  have e0 : Ext w w1 := by rw [← hw_w1]; exact ext_alloc _ _
  refine ⟨fun _ w' => Ext w1 w' ∧ regP n q s x = 7 ∧ (x - (13 + 3 * q)) % 32 ≠ 0, ?_, ?_⟩
  · refine ⟨_, h0.all, CallT.mono (dunnageref05_Region.spec hp x w1) ?_⟩
    rintro _ w2 ⟨rfl, e2⟩
    refine cnd_bne (fun h => ⟨by rw [logicF, if_neg (fun k => h k.1)], e0.tr e2⟩) (fun h => ?_)
    obtain ⟨a, b, c⟩ := logicF_in hp h
    refine ⟨13 + 3 * q, (h0.ext e2).get 7 rfl, ?_⟩
    rw [a, b]
    exact cnd_beq (fun k => ⟨by rw [logicF, if_neg (fun l => l.2 k)], e0.tr e2⟩) (fun k => ⟨e2, h, k⟩)
  · rintro _ _ w2 ⟨e2, h, k⟩
    obtain ⟨a, b, c⟩ := logicF_in hp h
    refine ⟨13 + 3 * q, (h0.ext e2).get 7 rfl, 13 + 3 * q, (h0.ext e2).get 7 rfl, ?_, e0.tr e2⟩
    rw [a, b, c, logicF, if_pos ⟨h, k⟩]

/-! ### the reference's Plan; awake -/
theorem LB.store {w : World} {b : Nat} {x : L9} (h : LB w b x) (i : Nat) (hi : i < 9) (v : Value) (y : L9) (hy : x.vs.set i v = y.vs) :
    (w.cell? (Addr.add ⟨b, 0, none⟩ i)).isSome = true ∧ w.frozen? (Addr.add ⟨b, 0, none⟩ i) = false ∧ LB (w.setCell (Addr.add ⟨b, 0, none⟩ i) v) b y := by
  rw [add_mk, cell_blk h, frozen_blk h]
  refine ⟨by simp; omega, rfl, ?_⟩
  unfold LB
  rw [blk_set h, List.setIfInBounds_toArray, Nat.zero_add, hy]
theorem dunnageref05_Plan.spec (n : Int) (w : World) :
    CallT [.agg [.int .i64, .int .i64, .int .i64, .int .i64, .int .i64, .int .i64, .int .i64, .int .i64, .int .i64], .one (.int .i64)] Try.prog F.dunnageref05_Plan [.int .i64 n] w fun r w' => r = planF n ∧ Ext w w' := by
  refine dunnageref05_Plan.vc n w _ ?_
  generalize hw_w1 : w.alloc _ = w1
  have h0 : LB w1 w.heap.size lay0 := by rw [← hw_w1]; exact LB.new w lay0
  have e0 : Ext w w1 := by rw [← hw_w1]; exact ext_alloc _ _
  refine ⟨fun _ w' => w1 = w' ∧ ¬ (n < 256 ∨ n > 65536), ⟨fun b w' => w1 = w' ∧ (b = true ↔ (n < 256 ∨ n > 65536)), ?_, ?_⟩, ?_⟩
  · exact cnd_dec (fun h => ⟨rfl, by simp [h]⟩) (fun h => ⟨rfl, by simp [h]⟩)
  · rintro b _ _ ⟨rfl, hb⟩
    refine cnd_intro (fun ht => ?_) (fun hf => ⟨rfl, fun h => by rw [hb.2 h] at hf; cases hf⟩)
    refine ⟨h0.can, lay0, (h0.set lay0).all, ?_, e0.setCells (p := ⟨w.heap.size, 0, none⟩) (fun h => by simp at h) 0 lay0.vs⟩
    rw [planF_bad (hb.1 ht)]
  · rintro _ _ _ ⟨rfl, hn⟩
    have hq : IntKind.i64.wrap ((IntKind.i64.wrap (n - 13)).tdiv 8) = (n - 13) / 8 := by
      rw [i64_id (x := n - 13) (by omega) (by omega), Int.tdiv_eq_ediv_of_nonneg (by omega), i64_id (by omega) (by omega)]
    rw [hq, i64_id (x := 13 + (n - 13) / 8) (by omega) (by omega), i64_id (x := 2 * ((n - 13) / 8)) (by omega) (by omega), i64_id (x := 13 + 2 * ((n - 13) / 8)) (by omega) (by omega), i64_id (x := 3 * ((n - 13) / 8)) (by omega) (by omega), i64_id (x := 13 + 3 * ((n - 13) / 8)) (by omega) (by omega)]
    have hp : planF n = (lay n ((n - 13) / 8) ((n - 13 - 3 * ((n - 13) / 8)) / 32), 0) := if_neg hn
    have hs : IntKind.i64.wrap ((IntKind.i64.wrap (n - (13 + 3 * ((n - 13) / 8)))).tdiv 32) = (n - 13 - 3 * ((n - 13) / 8)) / 32 := by
      rw [i64_id (x := n - (13 + 3 * ((n - 13) / 8))) (by omega) (by omega), Int.tdiv_eq_ediv_of_nonneg (by omega), i64_id (by omega) (by omega)]
      congr 1; omega
    have hq1 : 30 ≤ (n - 13) / 8 := by omega
    generalize (n - 13) / 8 = q at *
    generalize hw_w2 : w1.alloc _ = w2
    have i0 : LB w2 w1.heap.size lay0 := by rw [← hw_w2]; exact LB.new w1 lay0
    have k0 : Ext w1 w2 := by rw [← hw_w2]; exact ext_alloc _ _
    refine ⟨i0.can, ?_⟩
    have i1 := i0.set (n, 3, 13, q, 0, 0, q, 0, 0)
    have k1 := k0.setCells (p := ⟨w1.heap.size, 0, none⟩) (fun h => by simp at h) 0 (L9.vs (n, 3, 13, q, 0, 0, q, 0, 0))
    dsimp only at i1 k1 ⊢
    generalize setCells w2 ⟨w1.heap.size, 0, none⟩ 0 (L9.vs (n, 3, 13, q, 0, 0, q, 0, 0)) = w3 at i1 k1 ⊢
    refine ⟨by omega, by omega, ?_⟩
    obtain ⟨a, b, i2⟩ := i1.store 4 (by omega) (.int .i64 (13 + q)) (n, 3, 13, q, 13 + q, 0, q, 0, 0) rfl
    have k2 := k1.set (p := Addr.add ⟨w1.heap.size, 0, none⟩ 4) (fun h => by simp at h) (.int .i64 (13 + q))
    refine ⟨a, b, ?_⟩
    change LB (w3.setCell (((Addr.mk w1.heap.size 0 none).add 4).add (Int.toNat 0 * 1)) (.int .i64 (13 + q))) _ _ at i2
    change Ext w1 (w3.setCell (((Addr.mk w1.heap.size 0 none).add 4).add (Int.toNat 0 * 1)) (.int .i64 (13 + q))) at k2
    generalize w3.setCell (((Addr.mk w1.heap.size 0 none).add 4).add (Int.toNat 0 * 1)) (.int .i64 (13 + q)) = w4 at i2 k2 ⊢
    refine ⟨by omega, by omega, ?_⟩
    have e5 : ((Addr.mk w1.heap.size 0 none).add 4).add (Int.toNat 1 * 1) = Addr.add ⟨w1.heap.size, 0, none⟩ 5 := by rw [add_add]; rfl
    rw [e5]
    obtain ⟨a, b, i3⟩ := i2.store 5 (by omega) (.int .i64 (13 + 2 * q)) (n, 3, 13, q, 13 + q, 13 + 2 * q, q, 0, 0) rfl
    have k3 := k2.set (p := Addr.add ⟨w1.heap.size, 0, none⟩ 5) (fun h => by simp at h) (.int .i64 (13 + 2 * q))
    refine ⟨a, b, ?_⟩
    generalize w4.setCell (Addr.add ⟨w1.heap.size, 0, none⟩ 5) (.int .i64 (13 + 2 * q)) = w5 at i3 k3 ⊢
    obtain ⟨a, b, i4⟩ := i3.store 7 (by omega) (.int .i64 (13 + 3 * q)) (n, 3, 13, q, 13 + q, 13 + 2 * q, q, 13 + 3 * q, 0) rfl
    have k4 := k3.set (p := Addr.add ⟨w1.heap.size, 0, none⟩ 7) (fun h => by simp at h) (.int .i64 (13 + 3 * q))
    refine ⟨a, b, ?_⟩
    generalize w5.setCell (Addr.add ⟨w1.heap.size, 0, none⟩ 7) (.int .i64 (13 + 3 * q)) = w6 at i4 k4 ⊢
    refine ⟨_, i4.get 7 rfl, ?_⟩
    rw [hs]
    obtain ⟨a, b, i5⟩ := i4.store 8 (by omega) (.int .i64 ((n - 13 - 3 * q) / 32)) (lay n q ((n - 13 - 3 * q) / 32)) rfl
    have k5 := k4.set (p := Addr.add ⟨w1.heap.size, 0, none⟩ 8) (fun h => by simp at h) (.int .i64 ((n - 13 - 3 * q) / 32))
    refine ⟨a, b, ?_⟩
    generalize w6.setCell (Addr.add ⟨w1.heap.size, 0, none⟩ 8) (.int .i64 ((n - 13 - 3 * q) / 32)) = w7 at i5 k5 ⊢
    have h7 := h0.ext k5
    refine ⟨_, i5.all, h7.can, _, (h7.set (lay n q ((n - 13 - 3 * q) / 32))).all, ?_, (e0.tr k5).setCells (p := ⟨w.heap.size, 0, none⟩) (fun h => by simp at h) 0 _⟩
    rw [hp]
end Go.Proofs
/- disk: a device in memory; ready, has, hit, counted, Arm, Start, Down, Waiting, Flips, Size. Conditions: those of each contract. -/
namespace Go.Proofs
open Go Go.Vc

/-! ### the device, in plain Lean -/
abbrev Sec := {l : List UInt8 // l.length = 512}
def zeroSec : Sec := ⟨List.replicate 512 0, List.length_replicate⟩
abbrev Wr := Nat × Sec
@[reducible] def encSec (x : Sec) : List Value := B8 x.1
@[reducible] def encWr (p : Wr) : List Value := .int .i64 (p.1 : Int) :: B8 p.2.1
theorem encSec_len (x : Sec) : (encSec x).length = 512 := by rw [encSec, B8_length]; exact x.2
theorem encWr_len (p : Wr) : (encWr p).length = 513 := by rw [encWr, List.length_cons, B8_length, p.2.2]
structure DK where
  kept : List Sec
  waits : List Wr
  down : Bool
  armed : Nat
  flips : Nat
def hitD (D : DK) : DK × Bool := if D.armed = 0 then (D, false) else ({ D with armed := D.armed - 1 }, D.armed - 1 == 0)
def cntD (D : DK) : DK × Int := if (hitD D).2 = true then ({ (hitD D).1 with down := true }, 40) else ((hitD D).1, 0)
/-! ### the device in memory -/
/-- The blocks of a device. -/
def fp (d : Nat) (k s : SV) (b : Nat) : Prop := b = d ∨ k.blk b ∨ s.blk b
@[reducible] def dkVs (k s : SV) (D : DK) : List Value := [.slice k.a k.len k.cap, .slice s.a s.len s.cap, .bool D.down, .int .i64 (D.armed : Int), .int .i64 (D.flips : Int)]
structure DkAt (w : World) (d : Nat) (k s : SV) (D : DK) : Prop where
  blk : BK w d T.disk_Disk (dkVs k s D)
  kept : OwnS encSec 512 T.disk_content w 0 k D.kept
  wait : OwnS encWr 513 T.disk_write w 0 s D.waits
  dk : ¬ k.blk d
  ds : ¬ s.blk d
  ks : ∀ b, k.blk b → ¬ s.blk b
  rng : ∀ p ∈ D.waits, p.1 < D.kept.length
  num : D.kept.length ≤ 65536
  arm : D.armed < 9223372036854775808
theorem DkAt.upd {M : Nat → Prop} {w w' : World} {d : Nat} {k s : SV} {D : DK} (h : DkAt w d k s D) (u : Upd M w w') (hm : ∀ b, fp d k s b → ¬ M b) : DkAt w' d k s D :=
  ⟨h.blk.upd u (hm _ (.inl rfl)), ⟨h.kept.own.upd u fun b hb => hm b (.inr (.inl hb)), h.kept.esz, h.kept.pos⟩, ⟨h.wait.own.upd u fun b hb => hm b (.inr (.inr hb)), h.wait.esz, h.wait.pos⟩, h.dk, h.ds, h.ks, h.rng, h.num, h.arm⟩
theorem DkAt.ext {w w' : World} {d : Nat} {k s : SV} {D : DK} (h : DkAt w d k s D) (u : Ext w w') : DkAt w' d k s D := h.upd u fun _ _ => id
theorem DkAt.lt {w : World} {d : Nat} {k s : SV} {D : DK} (h : DkAt w d k s D) {b : Nat} (hb : fp d k s b) : b < w.heap.size := by
  rcases hb with rfl | hb | hb
  · exact h.blk.lt
  · exact h.kept.own.blk_lt hb
  · exact h.wait.own.blk_lt hb
/-- What a call made of a device. -/
structure DkTo (w w' : World) (d : Nat) (k s s' : SV) (D' : DK) : Prop where
  at_ : DkAt w' d k s' D'
  u : Upd (fp d k s) w w'
  n : ∀ b, s'.blk b → s.blk b ∨ w.heap.size ≤ b
theorem DkAt.to {w : World} {d : Nat} {k s : SV} {D : DK} (h : DkAt w d k s D) : DkTo w w d k s s D := ⟨h, Upd.refl _ _, fun _ hb => .inl hb⟩
theorem DkTo.ext {w w1 w2 : World} {d : Nat} {k s s' : SV} {D' : DK} (h : DkTo w w1 d k s s' D') (e : Ext w1 w2) : DkTo w w2 d k s s' D' :=
  ⟨h.at_.ext e, h.u.trans e fun _ _ h => h.elim, h.n⟩
theorem DkTo.fp' {w w1 : World} {d : Nat} {k s s1 : SV} {D1 : DK} (h : DkTo w w1 d k s s1 D1) {b : Nat} (hb : fp d k s1 b) : fp d k s b ∨ w.heap.size ≤ b := by
  rcases hb with hb | hb | hb
  · exact .inl (.inl hb)
  · exact .inl (.inr (.inl hb))
  · rcases h.n b hb with h | h
    · exact .inl (.inr (.inr h))
    · exact .inr h
theorem DkTo.tr {w w1 w2 : World} {d : Nat} {k s s1 s2 : SV} {D1 D2 : DK} (h : DkTo w w1 d k s s1 D1) (g : DkTo w1 w2 d k s1 s2 D2) : DkTo w w2 d k s s2 D2 :=
  ⟨g.at_, h.u.trans g.u fun x hx hf => (h.fp' hf).resolve_right (by omega), fun b hb => by
    rcases g.n b hb with h1 | h1
    · exact h.n b h1
    · exact .inr (Nat.le_trans h.u.size h1)⟩
theorem DkTo.pre {w w1 w2 : World} {d : Nat} {k s s2 : SV} {D2 : DK} (e : Ext w w1) (g : DkTo w1 w2 d k s s2 D2) : DkTo w w2 d k s s2 D2 :=
  ⟨g.at_, (e.to _).trans g.u fun _ _ h => h, fun b hb => (g.n b hb).imp id fun h => Nat.le_trans e.size h⟩
/-- A plain field is set. -/
theorem DkAt.put {w : World} {d : Nat} {k s : SV} {D : DK} (h : DkAt w d k s D) (i : Nat) (hi : i < 5) (v : Value) (D' : DK) (hl : (dkVs k s D).set i v = dkVs k s D') (hk : D'.kept = D.kept) (hw : D'.waits = D.waits) (ha : D'.armed < 9223372036854775808) :
    (w.cell? (Addr.add ⟨d, 0, none⟩ i)).isSome = true ∧ w.frozen? (Addr.add ⟨d, 0, none⟩ i) = false ∧ DkTo w (w.setCell (Addr.add ⟨d, 0, none⟩ i) v) d k s s D' := by
  obtain ⟨a, b, c⟩ := h.blk.store i hi v
  rw [hl] at c
  have u : Upd (fun b => b = d) w (w.setCell (Addr.add ⟨d, 0, none⟩ i) v) := (Upd.refl _ w).set (p := Addr.add ⟨d, 0, none⟩ i) (fun _ => by simp) v
  refine ⟨a, b, ⟨c, ?_, ?_, h.dk, h.ds, h.ks, by rw [hk, hw]; exact h.rng, by rw [hk]; exact h.num, ha⟩, u.mono fun x _ hx => .inl hx, fun _ hb => .inl hb⟩
  · rw [hk]; exact ⟨h.kept.own.upd u fun b hb e => h.dk (e ▸ hb), h.kept.esz, h.kept.pos⟩
  · rw [hw]; exact ⟨h.wait.own.upd u fun b hb e => h.ds (e ▸ hb), h.wait.esz, h.wait.pos⟩
/-! ### small calls -/
@[reducible] def dptr (d : Nat) : Value := .pointer (some ⟨d, 0, none⟩)
variable {w : World} {d : Nat} {k s : SV} {D : DK}
theorem disk_ready.spec (h : DkAt w d k s D) : CallT [.one (.int .i64)] Try.prog F.disk_Disk_ready [dptr d] w fun r w' => r = (if D.down = true then 40 else 0) ∧ w = w' := by
  refine disk_Disk_ready.vc (some ⟨d, 0, none⟩) w _ ?_
  refine cnd_neg rfl ⟨D.down, h.blk.get 2 rfl, cnd_intro (fun hd => ⟨by rw [hd]; rfl, rfl⟩) (fun hd => ⟨by rw [hd]; rfl, rfl⟩)⟩
theorem disk_has.spec (h : DkAt w d k s D) (n : Int) : CallT [.one .bool] Try.prog F.disk_Disk_has [dptr d, .int .i64 n] w fun r w' => r = decide (0 ≤ n ∧ n < D.kept.length) ∧ w = w' := by
  refine disk_Disk_has.vc (some ⟨d, 0, none⟩) n w _ ?_
  have hl := h.kept.len
  refine cnd_dec (fun h0 => ⟨k, h.blk.get 0 rfl, ?_, rfl⟩) (fun h0 => ⟨?_, rfl⟩)
  · rw [decide_eq_decide]; omega
  · rw [eq_comm, decide_eq_false_iff_not]; omega
theorem disk_Down.spec (h : DkAt w d k s D) : CallT [.one .bool] Try.prog F.disk_Disk_Down [dptr d] w fun r w' => r = D.down ∧ w = w' := by
  refine disk_Disk_Down.vc (some ⟨d, 0, none⟩) w _ ?_
  exact cnd_pos rfl ⟨D.down, h.blk.get 2 rfl, rfl, rfl⟩
theorem disk_Size.spec (h : DkAt w d k s D) : CallT [.one (.int .i64)] Try.prog F.disk_Disk_Size [dptr d] w fun r w' => r = D.kept.length ∧ w = w' := by
  refine disk_Disk_Size.vc (some ⟨d, 0, none⟩) w _ ?_
  exact cnd_neg rfl ⟨k, h.blk.get 0 rfl, by rw [h.kept.len], rfl⟩
end Go.Proofs
/- disk: New, Write, Read, Flush. Conditions: those of each contract. -/
namespace Go.Proofs
open Go Go.Vc
def secOf (b : List UInt8) : Sec := if h : b.length = 512 then ⟨b, h⟩ else zeroSec
theorem secOf_val {b : List UInt8} (h : b.length = 512) : (secOf b).1 = b := by rw [secOf, dif_pos h]
def writeD (D : DK) (at_ : Int) (b : List UInt8) : DK × Int :=
  if D.down = true then (D, 40) else if ¬ (0 ≤ at_ ∧ at_ < D.kept.length) ∨ b.length ≠ 512 then (D, 1) else cntD { D with waits := D.waits ++ [(at_.toNat, secOf b)] }
/-- The last one that was written counts. -/
def lastW (ws : List Wr) (at_ : Nat) (x : Sec) : Sec := ws.foldl (fun acc p => if p.1 = at_ then p.2 else acc) x
def showD (D : DK) (at_ : Nat) : Sec := lastW D.waits at_ (D.kept.getD at_ zeroSec)
def readD (D : DK) (at_ : Int) : List UInt8 × Int :=
  if D.down = true then ([], 40) else if ¬ (0 ≤ at_ ∧ at_ < D.kept.length) then ([], 1) else ((showD D at_.toNat).1, 0)
def applyW (kept : List Sec) (ws : List Wr) : List Sec := ws.foldl (fun k p => k.set p.1 p.2) kept
theorem applyW_len : ∀ (ws : List Wr) (kept : List Sec), (applyW kept ws).length = kept.length
  | [], _ => rfl
  | p :: r, kept => by
    have := applyW_len r (kept.set p.1 p.2)
    rw [List.length_set] at this
    exact this
def flushD (D : DK) : DK × Int :=
  if D.down = true then (D, 40) else if (cntD D).2 ≠ 0 then cntD D else ({ (cntD D).1 with kept := applyW D.kept D.waits, waits := [] }, 0)
/-! ### New -/
def newD (n : Nat) : DK := ⟨List.replicate n zeroSec, [], false, 0, 0⟩
theorem reps_flat {α : Type} (enc : α → List Value) (x : α) : ∀ n, reps n (enc x) = (List.replicate n x).flatMap enc
  | 0 => rfl
  | n + 1 => by rw [reps, reps_flat enc x n, List.replicate_succ, List.flatMap_cons]
theorem z_content : zeroL Try.prog T.disk_content = some (encSec zeroSec) := by kernel_rfl
theorem u_content : Try.prog.underlying T.sl_disk_content = some (.slice T.disk_content) := by kernel_rfl
theorem disk_New.spec (n : Int) (w : World) : CallT [.one .ptr, .one (.int .i64)] Try.prog F.disk_New [.int .i64 n] w fun r w' =>
    Ext w w' ∧ ((n < 1 ∨ n > 65536) ∧ r = (none, 1) ∨ (1 ≤ n ∧ n ≤ 65536) ∧ ∃ d k s, r = (some ⟨d, 0, none⟩, 0) ∧ DkAt w' d k s (newD n.toNat) ∧ ∀ b, fp d k s b → w.heap.size ≤ b) := by
  refine disk_New.vc n w _ ?_
  refine cnd_dec (fun h => ⟨Upd.refl _ _, .inl ⟨.inl h, rfl⟩⟩) (fun h1 => cnd_dec (fun h => ⟨Upd.refl _ _, .inl ⟨.inr h, rfl⟩⟩) (fun h2 => ?_))
  refine mkSV_own (bt := 512) (sz := 512) u_content (by kernel_rfl) (by kernel_rfl) z_content (encSec_len _) (by omega) (by omega) (by omega) (by omega) ?_
  rw [reps_flat]
  have ho : OwnS encSec 512 T.disk_content (w.alloc (.cells ((List.replicate n.toNat zeroSec).flatMap encSec).toArray T.disk_content)) w.heap.size ⟨some ⟨w.heap.size, 0, none⟩, n.toNat, n.toNat⟩ (List.replicate n.toNat zeroSec) :=
    ⟨Own.new w T.disk_content 512 n.toNat _ (by rw [flat_len encSec_len, List.length_replicate]), encSec_len, by decide⟩
  generalize hw1 : w.alloc (.cells ((List.replicate n.toNat zeroSec).flatMap encSec).toArray T.disk_content) = w1 at ho ⊢
  have e1 : Ext w w1 := by rw [← hw1]; exact ext_alloc _ _
  have z1 : w1.heap.size = w.heap.size + 1 := by rw [← hw1]; simp
  refine ⟨e1.alloc _, .inr ⟨⟨by omega, by omega⟩, w1.heap.size, ⟨some ⟨w.heap.size, 0, none⟩, n.toNat, n.toNat⟩, ⟨none, 0, 0⟩, rfl, ?_, ?_⟩⟩
  · refine ⟨BK.new w1 T.disk_Disk _, ⟨(ho.ext (ext_alloc _ _)).own.mono (Nat.zero_le _), encSec_len, by decide⟩, OwnS.nil encWr_len (by decide) _ _ _, ?_, ?_, ?_, ?_, ?_, by simp [newD]⟩
    · rintro ⟨A, hA, hb⟩; obtain rfl := Option.some.inj hA; simp only at hb; omega
    · rintro ⟨A, hA, hb⟩; simp at hA
    · rintro b _ ⟨A, hA, hb⟩; simp at hA
    · simp [newD]
    · simp [newD]; omega
  · rintro b (rfl | ⟨A, hA, rfl⟩ | ⟨A, hA, _⟩)
    · omega
    · obtain rfl := Option.some.inj hA; exact Nat.le_refl _
    · simp at hA

/-! ### Write -/
/-! ### Read -/
theorem lastW_take {ws : List Wr} {at_ i : Nat} {p : Wr} {x : Sec} (hp : ws[i]? = some p) (he : p.1 = at_) (hno : ∀ q ∈ ws.drop (i + 1), q.1 ≠ at_) : lastW ws at_ x = p.2 := by
  have hi := (List.getElem?_eq_some_iff.1 hp).1
  have h1 : ws = (ws.take i ++ [p]) ++ ws.drop (i + 1) := by
    obtain ⟨_, rfl⟩ := List.getElem?_eq_some_iff.1 hp
    rw [List.append_assoc, List.singleton_append, ← List.drop_eq_getElem_cons hi, List.take_append_drop]
  have h2 : ∀ (l : List Wr) (y : Sec), (∀ q ∈ l, q.1 ≠ at_) → lastW l at_ y = y := by
    intro l
    induction l with
    | nil => intro y _; rfl
    | cons q r ih =>
      intro y hq
      show lastW r at_ (if q.1 = at_ then q.2 else y) = y
      rw [if_neg (hq q (by simp))]
      exact ih y fun z hz => hq z (by simp [hz])
  conv => lhs; rw [h1]
  have h3 : lastW ((ws.take i ++ [p]) ++ ws.drop (i + 1)) at_ x = lastW (ws.drop (i + 1)) at_ (lastW (ws.take i ++ [p]) at_ x) := by simp only [lastW, List.foldl_append]
  rw [h3, h2 _ _ hno]
  simp [lastW, he]
theorem lastW_none {ws : List Wr} {at_ : Nat} {x : Sec} (hno : ∀ q ∈ ws, q.1 ≠ at_) : lastW ws at_ x = x := by
  induction ws generalizing x with
  | nil => rfl
  | cons q r ih =>
    show lastW r at_ (if q.1 = at_ then q.2 else x) = x
    rw [if_neg (hno q (by simp))]
    exact ih fun z hz => hno z (by simp [hz])
theorem subA_lo (a : Option Addr) (m : Nat) (hm : m ≠ 0) : subA a 0 1 m = a := by
  unfold subA; rw [if_neg hm]; cases a <;> rfl
theorem disk_Read.spec {w : World} {d : Nat} {k s : SV} {D : DK} (h : DkAt w d k s D) (hn : D.waits.length ≤ 2000000) (at_ : Int) :
    CallT [.one .slice, .one (.int .i64)] Try.prog F.disk_Disk_Read [dptr d, .int .i64 at_] w fun r w' => OwnB w' w.heap.size r.1 (readD D at_).1 ∧ r.2 = (readD D at_).2 ∧ Ext w w' := by
  refine disk_Disk_Read.vc (some ⟨d, 0, none⟩) at_ w _ ?_
  refine CallT.mono (disk_ready.spec h) ?_
  rintro _ _ ⟨rfl, rfl⟩
  by_cases hdn : D.down = true
  · rw [if_pos hdn, readD, if_pos hdn]
    exact cnd_pos rfl ⟨Own.nil _ _ _ _, rfl, Upd.refl _ _⟩
  rw [if_neg hdn, readD, if_neg hdn]
  refine cnd_neg rfl (CallT.mono (disk_has.spec h at_) ?_)
  rintro _ _ ⟨rfl, rfl⟩
  refine cnd_not (fun hf => ?_) (fun htr => ?_)
  · rw [if_pos (by simpa using hf)]; exact ⟨Own.nil _ _ _ _, rfl, Upd.refl _ _⟩
  have hat : 0 ≤ at_ ∧ at_ < D.kept.length := by simpa using htr
  rw [if_neg (by simpa using htr)]
  obtain ⟨i, rfl⟩ : ∃ i : Nat, at_ = i := ⟨at_.toNat, by omega⟩
  rw [Int.toNat_natCast]
  have hwl := h.wait.len
  have hw0 : IntKind.i64.wrap ((s.len : Int) - 1) = (s.len : Int) - 1 := by rw [i64_id] <;> omega
  -- a copy of a sector
  have copy : ∀ (P : Prop) (_ : P) (x : Sec) (A : Addr), cellsAt w A (B8 x.1) → CallT [.one .slice] Try.prog F.slices_Clone_byte_byte [.slice (subA (some A) 0 1 512) (512 - 0) (512 - 0)] w fun r w' => OwnB w' w.heap.size r x.1 ∧ P ∧ Ext w w' := by
    intro P hP x A hA
    rw [subA_lo _ _ (by decide)]
    have hr : RdB w ⟨some A, 512, 512⟩ x.1 := ⟨by rw [B8_length, x.2]; rfl, fun h => by simp at h, fun A' hA' => by obtain rfl := Option.some.inj hA'; exact hA⟩
    refine CallT.mono (slices_Clone_byte_byte.spec hr (by rw [x.2]; decide)) ?_
    rintro o w' ⟨ho, e, _⟩
    exact ⟨ho, hP, e⟩
  refine ⟨s, h.blk.get 1 rfl, ?_⟩
  rw [hw0]
  refine ⟨fun n x w' => w = w' ∧ ∃ j : Nat, x = (j : Int) - 1 ∧ j ≤ D.waits.length ∧ n = j ∧ ∀ q ∈ D.waits.drop j, q.1 ≠ i, ⟨_, rfl, D.waits.length, by omega, Nat.le_refl _, rfl, by simp⟩, ?_⟩
  rintro n _ _ _ ⟨rfl, j, rfl, hj, rfl, hno⟩
  refine cnd_dec (fun hge => ?_) (fun hlt => ?_)
  · obtain ⟨m, rfl⟩ : ∃ m, n = m + 1 := ⟨n - 1, by omega⟩
    have hml : m < D.waits.length := by omega
    have hx : D.waits[m]? = some D.waits[m] := List.getElem?_eq_getElem hml
    have hdr : D.waits.drop m = D.waits[m] :: D.waits.drop (m + 1) := List.drop_eq_getElem_cons hml
    generalize D.waits[m] = p at hx hdr
    have hm1 : (((m + 1 : Nat) : Int) - 1) = (m : Int) := by omega
    rw [hm1]
    simp only [Int.toNat_natCast]
    refine ⟨s, h.blk.get 1 rfl, by omega, by omega, h.wait.rd.get hml fun A hA => ⟨(p.1 : Int), h.wait.rd.fld hx hA (k := 0) rfl, cnd_beq (fun he => ?_) (fun hne => ?_)⟩⟩
    · refine ⟨s, h.blk.get 1 rfl, by omega, by omega, ?_⟩
      rw [hA]
      have hc : cellsAt w ((A.add (m * 513)).add 1) (B8 p.2.1) := (h.wait.rd.at_ hx hA).drop 1
      have hs : showD D i = p.2 := lastW_take hx (by omega) hno
      rw [hs]
      exact copy _ trivial p.2 _ hc
    · refine ⟨m, by omega, trivial, m, ?_, by omega, rfl, fun q hq => ?_⟩
      · rw [i64_id] <;> omega
      · rw [hdr] at hq
        rcases List.mem_cons.1 hq with rfl | hq
        · intro he; exact hne (by omega)
        · exact hno q hq
  · have hn0 : n = 0 := by omega
    subst hn0
    have hil : i < D.kept.length := by omega
    have hx : D.kept[i]? = some D.kept[i] := List.getElem?_eq_getElem hil
    have hs : showD D i = D.kept[i] := by
      rw [showD, lastW_none (by simpa using hno), List.getD_eq_getElem?_getD, hx]; rfl
    rw [hs]
    generalize D.kept[i] = x at hx
    have hkl := h.kept.len
    refine ⟨k, h.blk.get 0 rfl, by omega, by omega, h.kept.rd.get hil fun A hA => ?_⟩
    exact copy _ rfl x _ (h.kept.rd.at_ hx hA)
end Go.Proofs
/- disk: Flush, Crash, Flip, Fork. Conditions: those of each contract. -/
namespace Go.Proofs
open Go Go.Vc
/-! ### Crash -/
/-! ### Flip -/
def bitB (bit : Nat) : UInt8 := UInt8.ofNat (2 ^ (bit % 8))
def flipS (x : Sec) (bit : Nat) : Sec := ⟨x.1.set (bit / 8) (x.1.getD (bit / 8) 0 ^^^ bitB bit), by rw [List.length_set]; exact x.2⟩
def flipD (D : DK) (at_ bit : Int) : DK × Int :=
  if ¬ (0 ≤ at_ ∧ at_ < D.kept.length) ∨ bit < 0 ∨ 4096 ≤ bit then (D, 1) else ({ D with kept := D.kept.set at_.toNat (flipS (D.kept.getD at_.toNat zeroSec) bit.toNat), flips := D.flips + 1 }, 0)
theorem bit_xor {c : UInt8} {m : Nat} (hm : m < 8) : bxor .u8 (c.toNat : Int) (shl .u8 1 (m : Int)) = ((c ^^^ UInt8.ofNat (2 ^ m)).toNat : Int) := by
  have hlt : 2 ^ m < 256 := by
    have : 2 ^ m < 2 ^ 8 := Nat.pow_lt_pow_right (by decide) hm
    omega
  have h1 : shl .u8 1 (m : Int) = ((2 ^ m : Nat) : Int) := by
    have := shl_nat (k := .u8) (a := 1) (b := m) rfl (by simp only [IntKind.bits]; omega)
    rw [Nat.one_mul, Nat.mod_eq_of_lt (by simpa [IntKind.bits] using hlt)] at this
    exact this
  have h2 : (UInt8.ofNat (2 ^ m)).toNat = 2 ^ m := by simp; omega
  rw [h1]
  have := bxor_nat (k := .u8) rfl (a := c.toNat) (b := 2 ^ m) c.toNat_lt (by simpa [IntKind.bits] using hlt)
  rw [UInt8.toNat_xor, h2]; exact this
set_option maxRecDepth 100000 in
theorem disk_Flip.spec {w : World} {d : Nat} {k s : SV} {D : DK} (h : DkAt w d k s D) (hf : D.flips ≤ 1000000) (at_ bit : Int) :
    CallT [.one (.int .i64)] Try.prog F.disk_Disk_Flip [dptr d, .int .i64 at_, .int .i64 bit] w fun r w' => r = (flipD D at_ bit).2 ∧ DkTo w w' d k s s (flipD D at_ bit).1 := by
  refine disk_Disk_Flip.vc (some ⟨d, 0, none⟩) at_ bit w _ ?_
  refine cnd_neg rfl ⟨fun _ w' => w = w' ∧ (0 ≤ at_ ∧ at_ < D.kept.length) ∧ 0 ≤ bit ∧ bit < 4096, CallT.mono (disk_has.spec h at_) ?_, ?_⟩
  · rintro _ _ ⟨rfl, rfl⟩
    have bad : (¬ (0 ≤ at_ ∧ at_ < D.kept.length) ∨ bit < 0 ∨ 4096 ≤ bit) → (1 : Int) = (flipD D at_ bit).2 ∧ DkTo w w d k s s (flipD D at_ bit).1 := fun hb => by
      rw [flipD, if_pos hb]; exact ⟨rfl, h.to⟩
    exact cnd_not (fun hff => bad (.inl (by simpa using hff))) (fun htr => cnd_dec (fun h0 => bad (.inr (.inl h0))) (fun h0 => cnd_dec (fun h1 => bad (.inr (.inr (by omega)))) (fun h1 => ⟨rfl, by simpa using htr, by omega, by omega⟩)))
  rintro _ _ _ ⟨rfl, hat, hb0, hb1⟩
  obtain ⟨i, rfl⟩ : ∃ i : Nat, at_ = i := ⟨at_.toNat, by omega⟩
  obtain ⟨b, rfl⟩ : ∃ b : Nat, bit = b := ⟨bit.toNat, by omega⟩
  rw [flipD, if_neg (by omega)]
  have hil : i < D.kept.length := by omega
  have hd : DkAt w.drew d k s D := h.ext (ext_drew _)
  have hkl := hd.kept.len
  have hx : D.kept[i]? = some D.kept[i] := List.getElem?_eq_getElem hil
  have hgd : D.kept.getD i zeroSec = D.kept[i] := by rw [List.getD_eq_getElem?_getD, hx]; rfl
  generalize D.kept[i] = x at hx hgd
  have hq : IntKind.i64.wrap ((b : Int).tdiv 8) = ((b / 8 : Nat) : Int) := by
    rw [Int.tdiv_eq_ediv_of_nonneg (by omega), i64_id (by omega) (by omega)]; omega
  have hm : (b : Int).tmod 8 = ((b % 8 : Nat) : Int) := by rw [Int.tmod_eq_emod_of_nonneg (by omega)]; omega
  rw [hq, hm]
  simp only [Int.toNat_natCast, Nat.mul_one]
  rw [hgd]
  have h8 : b / 8 < x.1.length := by rw [x.2]; omega
  have hcell : (encSec x)[b / 8]? = some (.int .u8 ((x.1.getD (b / 8) 0).toNat : Int)) := by
    simp only [encSec, B8, List.getElem?_map, List.getElem?_eq_getElem h8, Option.map_some, List.getD_eq_getElem?_getD, Option.getD_some]
  refine ⟨k, hd.blk.get 0 rfl, by omega, by omega, hd.kept.rd.get hil fun A hA => ⟨by omega, by omega, ((x.1.getD (b / 8) 0).toNat : Int), hd.kept.rd.fld hx hA hcell, by omega, by omega, by omega, ?_⟩⟩
  rw [hA, bit_xor (by omega)]
  obtain ⟨c1, c2, c3, c4, c5⟩ := hd.kept.setf hx hA (k := b / 8) (by omega) (v := .int .u8 ((x.1.getD (b / 8) 0 ^^^ UInt8.ofNat (2 ^ (b % 8))).toNat : Int)) (y := flipS x b) (by
    simp only [encSec, flipS, B8, List.map_set]; rfl)
  refine ⟨by omega, by omega, c1, c2, ?_⟩
  generalize w.drew.setCell ((A.add (i * 512)).add (b / 8)) (.int .u8 ((x.1.getD (b / 8) 0 ^^^ UInt8.ofNat (2 ^ (b % 8))).toNat : Int)) = w2 at c3 c4 c5 ⊢
  have a2 : DkAt w2 d k s { D with kept := D.kept.set i (flipS x b) } :=
    ⟨hd.blk.upd c5 hd.dk, c3, ⟨hd.wait.own.upd c5 fun b hb hk => hd.ks b hk hb, hd.wait.esz, hd.wait.pos⟩, hd.dk, hd.ds, hd.ks, by simp only [List.length_set]; exact hd.rng, by simp only [List.length_set]; exact hd.num, hd.arm⟩
  have t2 : DkTo w w2 d k s s { D with kept := D.kept.set i (flipS x b) } := DkTo.pre (ext_drew w) ⟨a2, c5.mono fun x _ hx => .inr (.inl hx), fun _ hb => .inl hb⟩
  obtain ⟨g1, g2, g3⟩ := a2.put 4 (by omega) (.int .i64 ((D.flips + 1 : Nat) : Int)) { D with kept := D.kept.set i (flipS x b), flips := D.flips + 1 } rfl rfl rfl a2.arm
  have hw : IntKind.i64.wrap ((D.flips : Int) + 1) = ((D.flips + 1 : Nat) : Int) := by rw [i64_id] <;> omega
  refine ⟨(D.flips : Int), a2.blk.get 4 rfl, g1, g2, trivial, ?_⟩
  rw [hw]
  exact t2.tr g3

/-! ### Fork -/
end Go.Proofs
/- Which sectors are bad, in plain Lean. Conditions: those of each lemma. -/
namespace Go.Proofs
open Go Go.Vc Go.Crc
abbrev LY : L9 := lay 256 30 4
theorem pl256 : PL 256 30 4 := ⟨by decide, by decide, by decide, by decide, by decide, by decide⟩
theorem plan256 : planF 256 = (LY, 0) := by rw [planF, if_neg (by decide)]; rfl
theorem leq_self (x : L9) : (x.1 == x.1 && (x.2.1 == x.2.1 && (x.2.2.1 == x.2.2.1 && (x.2.2.2.1 == x.2.2.2.1 && ((x.2.2.2.2.1 == x.2.2.2.2.1 && (x.2.2.2.2.2.1 == x.2.2.2.2.2.1 && true)) && (x.2.2.2.2.2.2.1 == x.2.2.2.2.2.2.1 && (x.2.2.2.2.2.2.2.1 == x.2.2.2.2.2.2.2.1 && (x.2.2.2.2.2.2.2.2 == x.2.2.2.2.2.2.2.2 && true)))))))) = true := by simp
theorem leq_ne {x y : L9} (h : x ≠ y) : (x.1 == y.1 && (x.2.1 == y.2.1 && (x.2.2.1 == y.2.2.1 && (x.2.2.2.1 == y.2.2.2.1 && ((x.2.2.2.2.1 == y.2.2.2.2.1 && (x.2.2.2.2.2.1 == y.2.2.2.2.2.1 && true)) && (x.2.2.2.2.2.2.1 == y.2.2.2.2.2.2.1 && (x.2.2.2.2.2.2.2.1 == y.2.2.2.2.2.2.2.1 && (x.2.2.2.2.2.2.2.2 == y.2.2.2.2.2.2.2.2 && true)))))))) = false := by
  cases hb : (x.1 == y.1 && (x.2.1 == y.2.1 && (x.2.2.1 == y.2.2.1 && (x.2.2.2.1 == y.2.2.2.1 && ((x.2.2.2.2.1 == y.2.2.2.2.1 && (x.2.2.2.2.2.1 == y.2.2.2.2.2.1 && true)) && (x.2.2.2.2.2.2.1 == y.2.2.2.2.2.2.1 && (x.2.2.2.2.2.2.2.1 == y.2.2.2.2.2.2.2.1 && (x.2.2.2.2.2.2.2.2 == y.2.2.2.2.2.2.2.2 && true)))))))) with
  | false => rfl
  | true =>
    exfalso
    apply h
    simp only [Bool.and_eq_true, beq_iff_eq, and_true] at hb
    obtain ⟨h1, h2, h3, h4, ⟨h5, h6⟩, h7, h8, h9⟩ := hb
    exact Prod.ext h1 (Prod.ext h2 (Prod.ext h3 (Prod.ext h4 (Prod.ext h5 (Prod.ext h6 (Prod.ext h7 (Prod.ext h8 h9)))))))
abbrev Bd := Int × Int
@[reducible] def encBad (x : Bd) : List Value := [.int .i64 x.1, .int .i64 x.2]
theorem encBad_len (x : Bd) : (encBad x).length = 2 := rfl
theorem slbad_u : Try.prog.underlying T.sl_api_Bad = some (.slice T.api_Bad) := by kernel_rfl
theorem appBad : AppT Try.prog [T.sl_api_Bad, T.sl_api_Bad] T.api_Bad 2 16 [.int .i64 0, .int .i64 0] :=
  ⟨⟨T.sl_api_Bad, rfl, slbad_u⟩, ⟨T.sl_api_Bad, _, rfl, slbad_u, .inr ⟨T.api_Bad, rfl⟩⟩, by kernel_rfl, by kernel_rfl, by decide, by kernel_rfl, rfl, by decide⟩
def goodB (b : List UInt8) : Bool := decide ((openR b).2 = 0)
def badAt (i : Nat) : Bd := ((i : Int), regP 256 30 4 (i : Int))
def badsD (D : DK) (f n : Nat) : List Bd := ((List.range n).filter fun i => !goodB (showD D (f + i)).1).map fun i => badAt (f + i)
theorem badsD_succ (D : DK) (f n : Nat) : badsD D f (n + 1) = badsD D f n ++ (if goodB (showD D (f + n)).1 = true then [] else [badAt (f + n)]) := by
  unfold badsD
  rw [List.range_succ, List.filter_append, List.map_append]
  congr 1
  by_cases h : goodB (showD D (f + n)).1 = true
  · rw [if_pos h]; simp [h]
  · rw [if_neg h]; simp [h]
theorem badsD_len (D : DK) (f n : Nat) : (badsD D f n).length ≤ n := by
  unfold badsD
  rw [List.length_map]
  exact Nat.le_trans (List.length_filter_le _ _) (by simp)
open Classical in
noncomputable def partR (D : DK) (x : L9) (f n : Int) : List Bd × Int :=
  if x ≠ LY then ([], 1) else if D.down = true then ([], 40) else if f < 0 ∨ n < 0 ∨ f > 256 ∨ n > 256 - f then ([], 1) else (badsD D f.toNat n.toNat, 0)
/-! ### sectors that are good, and what turned bits make of them -/
theorem allZ_reps (n : Nat) : allZ (List.replicate n 0) = true := by simp [allZ]
theorem good_zero : goodB (List.replicate 512 0) = true := by
  rw [goodB, openR_zero List.length_replicate (allZ_reps 512)]; rfl
theorem good_seal {k : UInt8} {t : Nat} {p : List UInt8} (hk : knownK k = true) (hp : p.length ≤ 496) (ht : t < 2 ^ 64) : goodB (sealB k t p) = true := by
  rw [goodB, open_seal hk hp ht]; rfl
theorem three_low : ∀ a b c : Fin 9, knownK ((if a.val < 8 then UInt8.ofNat (2 ^ a.val) else 0) ^^^ (if b.val < 8 then UInt8.ofNat (2 ^ b.val) else 0) ^^^ (if c.val < 8 then UInt8.ofNat (2 ^ c.val) else 0)) = false := by decide +kernel
theorem turned_zero {ks : List Int} (hb : Bits3 4096 ks) : goodB (turns (List.replicate 512 0) ks) = false := by
  have hl0 : (List.replicate 512 (0 : UInt8)).length = 512 := List.length_replicate
  have hfirst : (List.replicate 512 (0 : UInt8)).getD 0 0 = 0 := rfl
  generalize hL : List.replicate 512 (0 : UInt8) = l at *
  have hl : (turns l ks).length = 512 := by rw [turns_len, hl0]
  have hers : ers 512 ks ≠ 0 := by
    rcases hb with ⟨i, hi, rfl⟩ | ⟨i, j, k, ⟨hi, hj, hk⟩, _, rfl⟩
    · exact ers1 hi
    · exact ers3 hi hj hk
  have hz : allZ (turns l ks) = false := by
    cases hz : allZ (turns l ks) with
    | false => rfl
    | true =>
      exfalso
      have he : turns l ks = l := by
        rw [← hL]
        refine List.eq_replicate_iff.2 ⟨by rw [hL]; exact hl, fun b hb => ?_⟩
        rw [hL] at hb
        have := List.all_eq_true.1 hz b hb
        simpa using this
      have h1 := raw_turns ks l M
      rw [he, hl0] at h1
      have h2 := congrArg (raw M l ^^^ ·) h1
      simp only [← Nat.xor_assoc, Nat.xor_self, Nat.zero_xor] at h2
      exact hers h2.symm
  have hk : knownK ((turns l ks).getD 0 0) = false := by
    rcases hb with ⟨i, _, rfl⟩ | ⟨i, j, k, _, _, rfl⟩
    · rw [show turns l [(i : Int)] = turn1 l i from rfl, turn1_zero (by omega), hfirst]
      obtain ⟨a, ha⟩ := bitOf_cases i
      rw [ha, UInt8.zero_xor]
      have h9 := three_low a 8 8
      have e8 : (if (8 : Fin 9).val < 8 then UInt8.ofNat (2 ^ (8 : Fin 9).val) else 0) = (0 : UInt8) := rfl
      rw [e8, UInt8.xor_zero, UInt8.xor_zero] at h9
      exact h9
    · rw [show turns l [(i : Int), (j : Int), (k : Int)] = turn1 (turn1 (turn1 l i) j) k from rfl, turn1_zero (by rw [turn1_len, turn1_len]; omega), turn1_zero (by rw [turn1_len]; omega), turn1_zero (by omega), hfirst]
      obtain ⟨a, ha⟩ := bitOf_cases i
      obtain ⟨b, hb⟩ := bitOf_cases j
      obtain ⟨c, hc⟩ := bitOf_cases k
      rw [ha, hb, hc, UInt8.zero_xor]
      exact three_low a b c
  cases hr : rightB (turns l ks) with
  | false => rw [goodB, openR_sum hl hz hr]; rfl
  | true => rw [goodB, openR_bad hl hz hr (.inl hk)]; rfl
theorem flip_turn (x : Sec) {n : Nat} (hn : n < 4096) : (flipS x n).1 = turns x.1 [(n : Int)] := by
  have hx := x.2
  show x.1.set (n / 8) (x.1.getD (n / 8) 0 ^^^ bitB n) = turn1 x.1 (n : Int)
  unfold turn1
  rw [if_pos (by omega)]
  have e1 : ((n : Int) / 8).toNat = n / 8 := by omega
  have e2 : ((n : Int) % 8).toNat = n % 8 := by omega
  rw [e1, e2]; rfl
end Go.Proofs
/- scrub.Part and Look; what chapter 29 is awake by. Conditions: those of each contract. -/
namespace Go.Proofs
open Go Go.Vc Go.Crc
section
variable {D : DK} {x : L9} {f n : Int}
theorem partR_lay (h : x ≠ LY) : partR D x f n = ([], 1) := by rw [partR, if_pos h]
theorem partR_down (h : D.down = true) : partR D LY f n = ([], 40) := by rw [partR, if_neg (by simp), if_pos h]
theorem partR_arg (h : D.down = false) (h2 : f < 0 ∨ n < 0 ∨ f > 256 ∨ n > 256 - f) : partR D LY f n = ([], 1) := by rw [partR, if_neg (by simp), if_neg (by rw [h]; simp), if_pos h2]
theorem partR_ok (h : D.down = false) (h2 : ¬ (f < 0 ∨ n < 0 ∨ f > 256 ∨ n > 256 - f)) : partR D LY f n = (badsD D f.toNat n.toNat, 0) := by rw [partR, if_neg (by simp), if_neg (by rw [h]; simp), if_neg h2]
end
theorem showD_len (D : DK) (i : Nat) : (showD D i).1.length = 512 := (showD D i).2
set_option maxRecDepth 100000 in
set_option maxHeartbeats 1000000 in
theorem scrub_Part.spec {w : World} {d : Nat} {k s : SV} {D : DK} (h : DkAt w d k s D) (h256 : D.kept.length = 256) (hw : D.waits.length ≤ 2000000) (x : L9) {f n : Int} (hn : -9223372036854775808 ≤ n ∧ n ≤ 9223372036854775807) :
    CallT [.one .slice, .one (.int .i64)] Try.prog F.scrub_Part [dptr d, x.v, .int .i64 f, .int .i64 n] w fun r w' => OwnS encBad 2 T.api_Bad w' w.heap.size r.1 (partR D x f n).1 ∧ r.2 = (partR D x f n).2 ∧ Ext w w' := by
  refine scrub_Part.vc (some ⟨d, 0, none⟩) x f n w _ ?_
  have b1 := LB.new w x
  have e1 := ext_alloc w (.cells x.vs.toArray T.api_Layout)
  dsimp only
  generalize w.alloc _ = w1 at *
  refine cnd_neg rfl ?_
  have no : ∀ {w' : World} {c : Int}, Ext w w' → partR D x f n = ([], c) → OwnS encBad 2 T.api_Bad w' w.heap.size ⟨none, 0, 0⟩ (partR D x f n).1 ∧ c = (partR D x f n).2 ∧ Ext w w' := fun e hp => by
    rw [hp]; exact ⟨OwnS.nil encBad_len (by decide) _ _ _, rfl, e⟩
  refine ⟨fun _ v => Ext w1 v ∧ x = LY, CallT.mono (disk_Size.spec (h.ext e1)) ?_, ?_⟩
  · rintro _ _ ⟨rfl, rfl⟩
    rw [h256]
    refine CallT.mono (layout_Plan.spec ((256 : Nat) : Int) w1) ?_
    rintro ⟨y, ey⟩ w2 ⟨hy, e2⟩
    rw [show planF ((256 : Nat) : Int) = (LY, 0) from plan256] at hy
    obtain ⟨rfl, rfl⟩ := Prod.mk.inj hy
    generalize ha3 : w2.alloc _ = w3
    generalize hd3 : setCells w3 _ 0 _ = w4
    obtain ⟨c4, b4, e4, z4⟩ := bk_mk (T := T.api_Layout) (z := lay0.vs) (vs := LY.vs) ha3 hd3 rfl
    refine ⟨c4, cnd_neg rfl ⟨LY, b4.all, x, ((b1.ext e2).ext e4).all, ?_⟩⟩
    by_cases hx : x = LY
    · subst hx
      exact cnd_neg (by rw [leq_self]; rfl) ⟨e2.tr e4, rfl⟩
    · exact cnd_pos (by rw [leq_ne (fun g => hx g.symm)]; rfl) (no ((e1.tr e2).tr e4) (partR_lay hx))
  rintro _ _ w2 ⟨e2, rfl⟩
  have f2 := e1.tr e2
  have b2 := b1.ext e2
  refine CallT.mono (disk_Down.spec (h.ext f2)) ?_
  rintro _ _ ⟨rfl, rfl⟩
  cases hdn : D.down with
  | true => exact cnd_pos rfl (no f2 (partR_down hdn))
  | false =>
  refine cnd_neg rfl ⟨fun _ v => w2 = v ∧ ¬ (f < 0 ∨ n < 0 ∨ f > 256 ∨ n > 256 - f), cnd_dec (fun g => no f2 (partR_arg hdn (.inl g))) fun g1 => cnd_dec (fun g => no f2 (partR_arg hdn (.inr (.inl g)))) fun g2 => ⟨256, b2.get 0 rfl, cnd_dec (fun g => no f2 (partR_arg hdn (.inr (.inr (.inl g))))) fun g3 => ⟨256, b2.get 0 rfl, ?_⟩⟩, ?_⟩
  · rw [i64_id (by omega) (by omega)]
    exact cnd_dec (fun g => no f2 (partR_arg hdn (.inr (.inr (.inr g))))) fun g4 => ⟨rfl, by omega⟩
  rintro _ _ _ ⟨rfl, hg⟩
  rw [partR_ok hdn hg]
  obtain ⟨f0, rfl⟩ : ∃ q : Nat, f = q := ⟨f.toNat, by omega⟩
  obtain ⟨n0, rfl⟩ : ∃ q : Nat, n = q := ⟨n.toNat, by omega⟩
  simp only [Int.toNat_natCast]
  have sz1 := e1.size
  refine ⟨fun m y v => ∃ (i : Nat) (t : SV), y = (t, (i : Int)) ∧ i ≤ n0 ∧ m = n0 - i ∧ OwnS encBad 2 T.api_Bad v w1.heap.size t (badsD D f0 i) ∧ Ext w1 v, ⟨_, 0, ⟨none, 0, 0⟩, rfl, by omega, rfl, OwnS.nil encBad_len (by decide) _ _ _, e2⟩, ?_⟩
  rintro m _ _ v1 ⟨i, t, rfl, hi, rfl, ht, g1⟩
  dsimp only
  refine cnd_dec (fun hlt => ?_) (fun hge => ?_)
  · have hw1 : IntKind.i64.wrap ((f0 : Int) + (i : Int)) = ((f0 + i : Nat) : Int) := by rw [i64_id (by omega) (by omega)]; simp
    have hw2 : IntKind.i64.wrap ((i : Int) + 1) = ((i + 1 : Nat) : Int) := by rw [i64_id (by omega) (by omega)]; simp
    rw [hw1, hw2]
    refine CallT.mono (disk_Read.spec (h.ext (e1.tr g1)) hw ((f0 + i : Nat) : Int)) ?_
    have hrd : readD D ((f0 + i : Nat) : Int) = ((showD D (f0 + i)).1, 0) := by
      rw [readD, if_neg (by rw [hdn]; simp), if_neg (by omega), Int.toNat_natCast]
    rw [hrd]
    rintro ⟨q, qe⟩ v2 ⟨hq, hqe, e3⟩
    dsimp only at hq hqe ⊢
    subst hqe
    have hlen := showD_len D (f0 + i)
    refine cnd_neg rfl (CallT.mono (sector_Good.spec hq.rd hq.cap_le (by omega)) ?_)
    rintro _ v3 ⟨rfl, e4⟩
    have g3 := (g1.tr e3).tr e4
    have bl3 := b1.ext g3
    have ht3 := (ht.ext e3).ext e4
    have hbl := badsD_len D f0 i
    have htl := ht3.len
    refine cnd_not (fun hb => ?_) (fun hg2 => ?_)
    · refine ⟨LY, bl3.all, CallT.mono (layout_Region.spec pl256 ((f0 + i : Nat) : Int) v3) ?_⟩
      rintro _ v4 ⟨rfl, e5⟩
      refine app_new (m := 1) (vs := encBad (badAt (f0 + i))) appBad (g3.tr e5) (ht3.ext e5).own rfl (by intro v hv; simp [encBad] at hv; rcases hv with rfl | rfl <;> rfl) (by omega) ?_
      intro s' v5 ho e6 hl6 _
      refine ⟨n0 - (i + 1), by omega, i + 1, s', rfl, by omega, rfl, ⟨?_, encBad_len, by decide⟩, e6⟩
      rw [badsD_succ, if_neg (by rw [goodB, hb]; simp), List.flatMap_append]; simpa using ho
    · refine ⟨n0 - (i + 1), by omega, i + 1, t, rfl, by omega, rfl, ?_, g3⟩
      have hg3 : goodB (showD D (f0 + i)).1 = true := hg2
      rw [badsD_succ, if_pos hg3, List.append_nil]; exact ht3
  · have hi' : i = n0 := by omega
    subst hi'
    exact ⟨⟨ht.own.mono sz1, encBad_len, by decide⟩, by simp, e1.tr g1⟩
set_option maxRecDepth 100000 in
theorem scrub_Look.spec {w : World} {d : Nat} {k s : SV} {D : DK} (h : DkAt w d k s D) (h256 : D.kept.length = 256) (hw : D.waits.length ≤ 2000000) (x : L9) :
    CallT [.one .slice, .one (.int .i64)] Try.prog F.scrub_Look [dptr d, x.v] w fun r w' => OwnS encBad 2 T.api_Bad w' w.heap.size r.1 (partR D x 0 256).1 ∧ r.2 = (partR D x 0 256).2 ∧ Ext w w' := by
  refine scrub_Look.vc (some ⟨d, 0, none⟩) x w _ ?_
  have b1 := LB.new w x
  have e1 := ext_alloc w (.cells x.vs.toArray T.api_Layout)
  dsimp only
  generalize w.alloc _ = w1 at *
  have e2 := e1.tr (ext_drew w1)
  have b2 := b1.ext (ext_drew w1)
  refine ⟨fun v => LB v w.heap.size x, b2, x, fun v hv => hv.all, CallT.mono (disk_Size.spec (h.ext e2)) ?_⟩
  rintro _ _ ⟨rfl, rfl⟩
  rw [h256]
  refine ⟨b2, CallT.mono (scrub_Part.spec (h.ext e2) h256 hw x (f := 0) (n := ((256 : Nat) : Int)) (by decide)) ?_⟩
  rintro ⟨r, re⟩ w3 ⟨hr, hre, e3⟩
  exact ⟨⟨hr.own.mono e2.size, encBad_len, by decide⟩, hre, e2.tr e3⟩
theorem scrub_Part.nil (x : L9) (f n : Int) (w : World) :
    CallT [.one .slice, .one (.int .i64)] Try.prog F.scrub_Part [.pointer none, x.v, .int .i64 f, .int .i64 n] w fun r w' => r = (⟨none, 0, 0⟩, 2) ∧ Ext w w' := by
  refine scrub_Part.vc none x f n w _ ?_
  exact cnd_pos rfl ⟨rfl, ext_alloc _ _⟩
end Go.Proofs
/- dunnagelaw29.ScrubNil: a nil disk, one that is down, a layout that is another's. Conditions: what came in is of the sizes that the form allows. -/
namespace Go.Proofs
open Go Go.Vc Go.Crc
theorem scrub_Look.nil (x : L9) (w : World) :
    CallT [.one .slice, .one (.int .i64)] Try.prog F.scrub_Look [.pointer none, x.v] w fun r w' => r = (⟨none, 0, 0⟩, 2) ∧ Ext w w' := by
  refine scrub_Look.vc none x w _ ?_
  have b1 := LB.new w x
  have e1 := ext_alloc w (.cells x.vs.toArray T.api_Layout)
  dsimp only
  generalize w.alloc _ = w1 at *
  have e2 := e1.tr (ext_drew w1)
  have b2 := b1.ext (ext_drew w1)
  refine ⟨fun v => LB v w.heap.size x, b2, x, fun v hv => hv.all, disk_Disk_Size.vc none _ _ (cnd_pos rfl ⟨b2, CallT.mono (scrub_Part.nil x 0 0 _) ?_⟩)⟩
  rintro _ w3 ⟨rfl, e3⟩
  exact ⟨rfl, e2.tr e3⟩
/-! ### awake -/
def D104 : DK := { newD 256 with kept := (newD 256).kept.set 104 (flipS zeroSec 3), flips := 1 }
theorem new_get (i : Nat) : (newD 256).kept.getD i zeroSec = zeroSec := by
  rw [List.getD_eq_getElem?_getD]
  by_cases h : i < 256
  · rw [newD, List.getElem?_replicate, if_pos h]; rfl
  · rw [newD, List.getElem?_replicate, if_neg h]; rfl
theorem new_len : (newD 256).kept.length = 256 := by rw [newD]; exact List.length_replicate
theorem zero_val : zeroSec.1 = List.replicate 512 0 := rfl
theorem D104_show (i : Nat) : goodB (showD D104 i).1 = !(i == 104) := by
  have hs : showD D104 i = D104.kept.getD i zeroSec := rfl
  rw [hs]
  show goodB (((newD 256).kept.set 104 (flipS zeroSec 3)).getD i zeroSec).1 = _
  by_cases h : i = 104
  · subst h
    rw [List.getD_eq_getElem?_getD, List.getElem?_set_self (by rw [new_len]; decide), Option.getD_some, flip_turn zeroSec (by decide), zero_val, turned_zero (.inl ⟨3, by decide, rfl⟩)]
    rfl
  · rw [List.getD_eq_getElem?_getD, List.getElem?_set_ne (fun g => h g.symm), ← List.getD_eq_getElem?_getD, new_get, zero_val, good_zero]
    simp [h]
theorem D104_bads : badsD D104 0 256 = [(104, 7)] := by
  have h : ((List.range 256).filter fun i => !goodB (showD D104 (0 + i)).1) = (List.range 256).filter fun i => i == 104 := by
    apply List.filter_congr
    intro i _
    rw [Nat.zero_add, D104_show]; simp
  rw [badsD, h, show ((List.range 256).filter fun i => i == 104) = [104] by decide +kernel]
  rfl
theorem flip104 : ∃ D1, flipD (newD 256) 104 3 = (D1, 0) ∧ D1.down = false ∧ D1.kept.length = 256 ∧ D1.waits.length ≤ 2000000 ∧ badsD D1 0 256 = [(104, 7)] := by
  refine ⟨D104, ?_, rfl, ?_, ?_, D104_bads⟩
  · rw [flipD, if_neg (by rw [new_len]; decide), show (104 : Int).toNat = 104 from rfl, show (3 : Int).toNat = 3 from rfl, new_get]
    rfl
  · show ((newD 256).kept.set 104 _).length = 256
    rw [List.length_set, new_len]
  · exact Nat.zero_le _
/-- A new disk: what is known of it. -/
theorem new256 : ∃ D0, newD 256 = D0 ∧ D0.down = false ∧ D0.kept.length = 256 ∧ D0.waits = [] ∧ D0.flips = 0 ∧ D0.armed = 0 := ⟨_, rfl, rfl, new_len, rfl, rfl, rfl⟩
theorem disk_New256.spec (w : World) : CallT [.one .ptr, .one (.int .i64)] Try.prog F.disk_New [.int .i64 256] w fun r w' =>
    Ext w w' ∧ ∃ d k s, r.1 = some ⟨d, 0, none⟩ ∧ DkAt w' d k s (newD 256) ∧ ∀ b, fp d k s b → w.heap.size ≤ b := by
  refine CallT.mono (disk_New.spec 256 w) ?_
  rintro ⟨dp, de⟩ w2 ⟨e2, h2⟩
  refine ⟨e2, ?_⟩
  rcases h2 with ⟨h, _⟩ | ⟨_, d, k, s, hr, h3, h4⟩
  · omega
  · exact ⟨d, k, s, congrArg Prod.fst hr, h3, h4⟩
set_option maxRecDepth 100000 in
theorem awake29.spec (w : World) : CallT [.one .bool] Try.prog F.dunnagelaw29_awake [] w fun r w' => r = true ∧ Ext w w' := by
  refine dunnagelaw29_awake.vc w _ ?_
  obtain ⟨D1, hfl, hdn1, hk1, hw1, hbad1⟩ := flip104
  obtain ⟨D0, hD0, hdn0, hk0, hw0, hf0, ha0⟩ := new256
  refine CallT.mono (disk_New256.spec w) ?_
  rw [hD0] at hfl ⊢
  clear hD0
  rintro ⟨dp, de⟩ w2 ⟨e2, d, k0, s0, hdp, hd, hfar⟩
  dsimp only at hdp
  subst hdp
  refine CallT.mono (dunnageref05_Plan.spec 256 w2) ?_
  rintro ⟨y, ey⟩ w3 ⟨hy, e3⟩
  rw [plan256] at hy
  obtain ⟨rfl, rfl⟩ := Prod.mk.inj hy
  dsimp only
  generalize ha4 : w3.alloc _ = w4
  generalize hd4 : setCells w4 _ 0 _ = w5
  obtain ⟨c5, b5, e5, z5⟩ := bk_mk (T := T.api_Layout) (z := lay0.vs) (vs := LY.vs) ha4 hd4 rfl
  have hd5 := hd.ext (e3.tr e5)
  have e05 := (e2.tr e3).tr e5
  have hsz := e2.size
  have hsz3 := e3.size
  refine ⟨c5, fun _ v => DkAt v d k0 s0 D1 ∧ BK v w3.heap.size T.api_Layout LY.vs ∧ Ext w v, cnd_neg rfl (CallT.mono (disk_Flip.spec hd5 (by omega) 104 3) ?_), ?_⟩
  · rw [hfl]
    rintro _ w6 ⟨rfl, t6⟩
    refine cnd_neg rfl ⟨t6.at_, b5.upd t6.u (fun g => by have := hd.lt g; omega), e05.trans t6.u fun x hx h => by have := hfar x h; omega⟩
  rintro _ _ w6 ⟨h6, b6, e06⟩
  refine ⟨LY, b6.all, CallT.mono (scrub_Look.spec h6 hk1 hw1 LY) ?_⟩
  have hp : partR D1 LY 0 256 = ([(104, 7)], 0) := by
    rw [partR_ok hdn1 (by decide), show (0 : Int).toNat = 0 from rfl, show (256 : Int).toNat = 256 from rfl, hbad1]
  rw [hp]
  rintro ⟨r, re⟩ w7 ⟨hr, hre, e7⟩
  dsimp only at hr hre ⊢
  subst hre
  have hl := hr.len
  refine cnd_pos rfl (cnd_pos (by rw [hl]; rfl) ⟨by decide, by rw [hl]; decide, hr.rd.get (i := 0) (by decide) fun A hA => ⟨(104, 7), hr.rd.at_ (i := 0) rfl hA, by decide, e06.tr e7⟩⟩)
end Go.Proofs
/- Extents: their cells. Conditions: none. -/
namespace Go.Proofs
open Go Go.Vc
abbrev Ex := Int × Int × Int
@[reducible] def encEx (m : Ex) : List Value := [.int .u64 m.1, .int .i64 m.2.1, .int .i64 m.2.2]
theorem encEx_len (m : Ex) : (encEx m).length = 3 := rfl
theorem encEx_one (m : Ex) : ∀ v ∈ encEx m, v.oneCell' = true := by
  intro v hv
  simp only [encEx, List.mem_cons, List.not_mem_nil, or_false] at hv
  rcases hv with rfl | rfl | rfl <;> rfl
theorem encEx_eq (a b : Ex) : (a.1 == b.1 && (a.2.1 == b.2.1 && (a.2.2 == b.2.2 && true))) = decide (a = b) := by
  obtain ⟨p1, p2, p3⟩ := a
  obtain ⟨q1, q2, q3⟩ := b
  simp only [Bool.and_true, Prod.mk.injEq, Bool.decide_and]
  rfl
end Go.Proofs
/- dunnagehelp over api_Extent: its contracts, written by a program (helpgen.py). Conditions: those of each contract. -/
namespace Go.Proofs
open Go Go.Vc
theorem app_api_Extent : AppT Try.prog [T.sl_api_Extent, T.sl_api_Extent] T.api_Extent 3 24 [.int .u64 0, .int .i64 0, .int .i64 0] :=
  ⟨⟨T.sl_api_Extent, rfl, by kernel_rfl⟩, ⟨T.sl_api_Extent, _, rfl, by kernel_rfl, .inr ⟨T.api_Extent, rfl⟩⟩, by kernel_rfl, by kernel_rfl, by decide, by kernel_rfl, rfl, by
    intro v hv
    simp only [List.mem_cons, List.not_mem_nil, or_false] at hv
    rcases hv with rfl | rfl | rfl <;> rfl⟩
theorem one_api_Extent (l : List Ex) : ∀ v ∈ l.flatMap encEx, v.oneCell' = true := by
  intro v hv
  obtain ⟨m, _, hm⟩ := List.mem_flatMap.1 hv
  exact encEx_one m v hm

set_option maxHeartbeats 1000000 in
theorem dunnagehelp_Own_api_Extent.spec {w : World} {s : SV} {l : List Ex} (hs : RdS encEx 3 w s l) (hl : l.length * 24 ≤ 140737488351232) (c : Ex) :
    CallT [.one .slice] Try.prog F.dunnagehelp_Own_api_Extent [.slice s.a s.len s.cap, .agg (encEx c).toArray] w fun o w' =>
      o.len = l.length ∧ o.cap = l.length + 3 ∧ Ext w w' ∧ ∃ b, Spare w' w.heap.size T.api_Extent 3 o b (l.flatMap encEx) (reps 3 (encEx c)) := by
  have hlen := hs.len
  have h3 : IntKind.i64.wrap ((s.len : Int) + 3) = ((l.length + 3 : Nat) : Int) := by rw [i64_id] <;> omega
  refine dunnagehelp_Own_api_Extent.vc s c w _ ?_
  rw [h3]
  obtain ⟨e0, z0, b0⟩ := alloc_facts w (.cells (encEx c).toArray T.api_Extent)
  have hs0 := hs.ext e0
  generalize hw0 : w.alloc (.cells (encEx c).toArray T.api_Extent) = w0 at e0 z0 b0 hs0
  refine mkSV_own (bt := 24) (sz := 3) (by kernel_rfl : Try.prog.underlying T.sl_api_Extent = some (.slice T.api_Extent)) (by kernel_rfl) (by kernel_rfl) (by kernel_rfl : zeroL Try.prog T.api_Extent = some [.int .u64 0, .int .i64 0, .int .i64 0]) rfl (by omega) (by omega) (by omega) (by omega) ?_
  rw [show (Int.toNat 0) = 0 from rfl, Int.toNat_natCast]
  have hz : ([.int .u64 0, .int .i64 0, .int .i64 0] : List Value).length = 3 := rfl
  generalize ([.int .u64 0, .int .i64 0, .int .i64 0] : List Value) = z at hz ⊢
  have h0 : Spare (w0.alloc (.cells (reps (l.length + 3) z).toArray T.api_Extent)) w0.heap.size T.api_Extent 3 ⟨some ⟨w0.heap.size, 0, none⟩, 0, l.length + 3⟩ w0.heap.size [] (reps (l.length + 3) z) :=
    ⟨rfl, Nat.le_refl _, blk_new _ _, by simp, by rw [List.nil_append, reps_length, hz]⟩
  refine appV_fit app_api_Extent h0 ((hs0.ext (ext_alloc _ _)).rd.src (one_api_Extent l)) (by simp only; omega) ?_
  intro w1 h1 hu
  have he1 : Ext w0 w1 := (ext_alloc w0 _).trans hu fun x hx e => by omega
  have hfl : (l.flatMap encEx).length = l.length * 3 := flat_len encEx_len l
  have hdrop : (reps (l.length + 3) z).drop (l.flatMap encEx).length = reps 3 z := by rw [hfl]; exact reps_drop hz _ _
  simp only [List.nil_append, Nat.zero_add] at h1 ⊢
  rw [hdrop] at h1
  rw [hlen] at h1 ⊢
  have hw : IntKind.i64.wrap ((l.length : Int) + 3) = ((l.length + 3 : Nat) : Int) := by rw [i64_id] <;> omega
  simp only [Nat.sub_zero]
  refine ⟨by omega, by omega, fun n x w' => ∃ k : Nat, k ≤ 3 ∧ x = ((l.length + k : Nat) : Int) ∧ n = 3 - k ∧ Ext w0 w' ∧
      w'.heap[w0.heap.size]? = some (.cells (l.flatMap encEx ++ (reps k (encEx c) ++ reps (3 - k) z)).toArray T.api_Extent (0, 0)), ⟨_, 0, by omega, rfl, rfl, he1, h1.blk⟩, ?_⟩
  rintro n x j w' ⟨k, hk, rfl, rfl, he, hb⟩
  refine cnd_dec (fun hlt => ?_) (fun hge => ?_)
  · have hk3 : k < 3 := by omega
    have hbc := he.get b0
    refine ⟨c, cellsAt_blk hbc (fun j v hv => by rw [Nat.zero_add, List.getElem?_toArray]; exact hv), by omega, by omega, ?_⟩
    simp only [subA_zero, onP_some, Int.toNat_natCast, add_mk, Nat.zero_add]
    have hoff : (l.length + k) * 3 = (l.flatMap encEx).length + k * 3 := by rw [hfl, Nat.add_mul]
    have hroom : (l.length + k) * 3 + 3 ≤ (l.flatMap encEx ++ (reps k (encEx c) ++ reps (3 - k) z)).length := by
      rw [List.length_append, List.length_append, hfl, reps_length, reps_length, encEx_len, hz]
      omega
    refine ⟨canSt_blk hb hroom, 3 - (k + 1), by omega, k + 1, by omega, by rw [i64_id] <;> omega, rfl, ?_, ?_⟩
    · exact he.setCells (p := ⟨w0.heap.size, (l.length + k) * 3, none⟩) (fun h => by simp at h) 0 _
    · have h5 := setCells_blk (o := (l.length + k) * 3) (encEx c) w' 0 _ hb (by rw [Nat.add_zero, encEx_len]; exact hroom)
      rw [Nat.add_zero, hoff, spl_reps (encEx_len c) hz hk3] at h5
      rw [hoff]
      exact h5
  · have hk3 : k = 3 := by omega
    subst hk3
    exact ⟨trivial, trivial, e0.tr he, _, ⟨rfl, by omega, by simpa [reps] using hb, by simp [hfl], by rw [List.length_append, hfl, reps_length, encEx_len, Nat.add_mul]⟩⟩

theorem dunnagehelp_Plain_api_Extent_1.spec (a b : Ex) (w : World) :
    CallT [.one .bool] Try.prog F.dunnagehelp_Plain_api_Extent_1 [.agg (encEx a).toArray, .agg (encEx b).toArray] w fun r w' => r = decide (a = b) ∧ Ext w w' := by
  refine dunnagehelp_Plain_api_Extent_1.vc a b w _ ?_
  intro w1
  obtain ⟨e1, z1, b1⟩ := alloc_facts w (.cells (encEx a).toArray T.api_Extent)
  intro w2
  obtain ⟨e2, z2, b2⟩ := alloc_facts w1 (.cells (encEx b).toArray T.api_Extent)
  have b1 : w2.heap[w.heap.size]? = _ := e2.get b1
  exact ⟨a, cellsAt_blk b1 (fun j v hv => by rw [Nat.zero_add, List.getElem?_toArray]; exact hv), b, cellsAt_blk b2 (fun j v hv => by rw [Nat.zero_add, List.getElem?_toArray]; exact hv), encEx_eq a b, e1.tr e2⟩
theorem dunnagehelp_Plain_api_Extent.spec {a b : SV} {x y : List Ex} {w : World} (ha : RdS encEx 3 w a x) (hb : RdS encEx 3 w b y) (hx : x.length < 2 ^ 62) :
    CallT [.one .bool] Try.prog F.dunnagehelp_Plain_api_Extent [.slice a.a a.len a.cap, .slice b.a b.len b.cap] w fun r w' => r = decide (x = y) ∧ Ext w w' := by
  refine dunnagehelp_Plain_api_Extent.vc a b w _ (dunnagehelp_Same_api_Extent.vc a b _ w _ ?_)
  have hal := ha.len
  have hbl := hb.len
  refine cnd_bne (fun hne => ?_) (fun he => ?_)
  · have : x ≠ y := fun e => hne (by rw [hal, hbl, e])
    exact ⟨by simp [this], Upd.refl _ _⟩
  have hxy : x.length = y.length := by omega
  refine ⟨fun n i w' => ∃ k : Nat, i = k ∧ k ≤ x.length ∧ n = x.length - k ∧ Ext w w' ∧ x.take k = y.take k, ⟨_, 0, rfl, by omega, rfl, Upd.refl _ _, rfl⟩, ?_⟩
  rintro n i j w' ⟨k, rfl, hk, rfl, hu, hq⟩
  refine cnd_dec (fun hlt => ?_) (fun hge => ?_)
  · have hkx : k < x.length := by omega
    have hky : k < y.length := by omega
    have hw : Ext w w'.drew := hu.drew
    refine ⟨by omega, by omega, ha.get hkx fun A hA => ⟨x[k], (ha.ext hw).at_ (List.getElem?_eq_getElem hkx) hA, by omega, by omega,
      hb.get hky fun B hB => ⟨y[k], (hb.ext hw).at_ (List.getElem?_eq_getElem hky) hB, ?_⟩⟩⟩
    refine CallT.mono (dunnagehelp_Plain_api_Extent_1.spec x[k] y[k] w'.drew) ?_
    rintro _ w2 ⟨rfl, e2⟩
    refine cnd_not (fun hf => ?_) (fun ht => ?_)
    · refine ⟨?_, hw.tr e2⟩
      have : x ≠ y := by
        rintro rfl
        simp at hf
      simp [this]
    · have hb : x[k] = y[k] := of_decide_eq_true ht
      refine ⟨_, ?_, k + 1, by rw [i64_id] <;> omega, by omega, rfl, hw.tr e2, ?_⟩
      · omega
      · rw [List.take_add_one, List.take_add_one, hq, List.getElem?_eq_getElem hkx, List.getElem?_eq_getElem hky, hb]
  · have hk2 : k = x.length := by omega
    subst hk2
    rw [List.take_length, List.take_of_length_le (by omega)] at hq
    exact ⟨by simp [hq], hu⟩

theorem dunnagehelp_Kept_api_Extent.spec {o b : SV} {x y : List Ex} {w : World} {B g : Nat} {c : Ex} (ho : Spare w B T.api_Extent 3 o g (x.flatMap encEx) (reps 3 (encEx c))) (hb : RdS encEx 3 w b y) (hx : x.length < 2 ^ 62) :
    CallT [.one .bool] Try.prog F.dunnagehelp_Kept_api_Extent [.slice o.a o.len o.cap, .slice b.a b.len b.cap, .agg (encEx c).toArray] w fun r w' => r = decide (x = y) ∧ Ext w w' := by
  refine dunnagehelp_Kept_api_Extent.vc o b c w _ ?_
  have hfl : (x.flatMap encEx).length = x.length * 3 := flat_len encEx_len x
  have hol : o.len = x.length := by have := ho.len; omega
  have hoc : o.cap = x.length + 3 := by have := ho.cap; rw [List.length_append, hfl, reps_length, encEx_len] at this; omega
  have hbl := hb.len
  obtain ⟨e0, z0, b0⟩ := alloc_facts w (.cells (encEx c).toArray T.api_Extent)
  have ho0 := ho.ext e0
  have hb1 := hb.ext e0
  have hlt0 := ho.lt
  generalize hw0 : w.alloc (.cells (encEx c).toArray T.api_Extent) = w0 at e0 z0 b0 ho0 hb1
  refine ⟨fun _ w' => x = y ∧ Ext w0 w', ?_, ?_⟩
  · refine CallT.mono (dunnagehelp_Plain_api_Extent.spec (x := x) ⟨ho0.rd, encEx_len, by decide⟩ hb1 hx) ?_
    rintro _ w1 ⟨rfl, he⟩
    refine cnd_not (fun hf => ⟨hf.symm, e0.tr he⟩) (fun ht => ?_)
    have hxy : x = y := of_decide_eq_true ht
    subst hxy
    refine cnd_dec (fun hlt => ?_) (fun _ => ⟨rfl, he⟩)
    rw [i64_id] at hlt <;> omega
  · rintro _ j w1 ⟨rfl, he⟩
    have h3 : IntKind.i64.wrap ((b.len : Int) + 3) = ((x.length + 3 : Nat) : Int) := by rw [i64_id] <;> omega
    rw [h3]
    refine ⟨by omega, by omega, fun n i w' => ∃ k : Nat, i = ((x.length + k : Nat) : Int) ∧ n = 3 - k ∧ Ext w1 w', ⟨_, 0, by rw [hbl]; rfl, rfl, Upd.refl _ _⟩, ?_⟩
    rintro n i j w2 ⟨k, rfl, rfl, hu⟩
    simp only [Int.toNat_natCast, Nat.sub_zero, subA_zero]
    have hew : Ext w w2 := (e0.tr he).tr hu
    refine cnd_dec (fun hlt => ?_) (fun hge => ⟨by simp, hew⟩)
    have hk3 : k < 3 := by omega
    have hud : Ext w1 w2.drew := hu.drew
    have hbk := ((ho0.ext he).ext hud).blk
    have hcb := Ext.get (he.tr hud) b0
    rw [ho.a]
    refine ⟨by omega, by omega, c, ?_, c, cellsAt_blk hcb (fun j v hv => by rw [Nat.zero_add, List.getElem?_toArray]; exact hv), ?_⟩
    · rw [add_mk]
      refine cellsAt_blk hbk fun j v hv => ?_
      have hj : j < 3 := by have := (List.getElem?_eq_some_iff.1 hv).1; rw [encEx_len] at this; exact this
      rw [Nat.zero_add, List.getElem?_toArray, Nat.add_mul, ← hfl, List.getElem?_append_right (by omega), show (x.flatMap encEx).length + k * 3 + j - (x.flatMap encEx).length = k * 3 + j by omega]
      rw [reps_at (encEx_len c) hj 3 k hk3]; exact hv
    · rw [encEx_eq c c]
      simp only [decide_true, Bool.not_true]
      exact cnd_false ⟨3 - (k + 1), by omega, k + 1, by rw [i64_id] <;> omega, rfl, hud⟩
end Go.Proofs
/- Numbers as bytes, there and back: in plain Lean. Conditions: those that each lemma names. -/
namespace Go.Proofs
open Go Go.Vc
/-- What a number is as bytes is read as that number. -/
theorem rvGo_varB : ∀ (x n v : Nat) (rest : List UInt8), n ≤ 9 → x * 128 ^ n < 2 ^ 64 → (n = 0 ∨ 0 < x) → rvGo n v (varB x ++ rest) = (v + x * 128 ^ n, n + (varB x).length, 0) := by
  intro x
  induction x using Nat.strongRecOn with
  | ind x ih =>
    intro n v rest hn hx h0
    have hpos : 0 < 128 ^ n := Nat.pow_pos (by decide)
    by_cases hlt : x < 128
    · have hc : (UInt8.ofNat x).toNat = x := by simp; omega
      rw [varB_lt hlt, List.singleton_append, rvGo, hc, if_neg, if_pos hlt, Nat.mod_eq_of_lt hlt]
      · rfl
      · rintro (⟨rfl, h⟩ | ⟨h1, h2⟩)
        · have : 2 * 128 ^ 9 ≤ x * 128 ^ 9 := Nat.mul_le_mul_right _ h
          omega
        · omega
    · have hn8 : n ≤ 8 := by
        rcases Nat.lt_or_ge 8 n with h | h
        · have : n = 9 := by omega
          subst this
          have : 128 * 128 ^ 9 ≤ x * 128 ^ 9 := Nat.mul_le_mul_right _ (by omega)
          omega
        · exact h
      have hc : (UInt8.ofNat (x % 128 + 128)).toNat = x % 128 + 128 := by simp; omega
      have hdm : x = 128 * (x / 128) + x % 128 := (Nat.div_add_mod x 128).symm
      have hsplit : x * 128 ^ n = x % 128 * 128 ^ n + x / 128 * 128 ^ (n + 1) := by
        rw [Nat.pow_succ, Nat.mul_comm (128 ^ n) 128, ← Nat.mul_assoc, ← Nat.add_mul]
        congr 1; omega
      rw [varB_ge hlt, List.cons_append, rvGo, hc, if_neg (by omega), if_neg (by omega)]
      rw [ih (x / 128) (by omega) (n + 1) _ rest (by omega) (by omega) (.inr (by omega))]
      rw [show (x % 128 + 128) % 128 = x % 128 by omega, hsplit, List.length_cons]
      refine Prod.ext ?_ (Prod.ext ?_ rfl)
      · simp only; omega
      · simp only; omega
theorem readVar_nat (l : List UInt8) (a : Nat) : readVar l a = (match rvGo 0 0 (l.drop a) with | (v, n, e) => if e = 0 then ((v : Int), (a : Int) + n, 0) else (0, 0, e)) := by
  rw [readVar, if_neg (by omega), Int.toNat_natCast]
theorem readVar_varB {a rest : List UInt8} {x : Nat} (hx : x < 2 ^ 64) : readVar (a ++ (varB x ++ rest)) (a.length : Int) = ((x : Int), ((a.length + (varB x).length : Nat) : Int), 0) := by
  rw [readVar_nat, List.drop_left, rvGo_varB x 0 0 rest (by omega) (by simpa using hx) (.inl rfl)]
  simp
end Go.Proofs
/- Manifests: which may be, what they are as bytes, what bytes are as one. Conditions: those of each lemma. -/
namespace Go.Proofs
open Go Go.Vc Go.Crc
structure Man where
  turn : Nat
  age : Nat
  image : Int
  parts : Int
  made : Nat
  log : Nat
  least : Nat
  seq : Nat
  serial : Nat
  deriving DecidableEq
def Man.z : Man := ⟨0, 0, 0, 0, 0, 0, 0, 0, 0⟩
abbrev M9 := Int × Int × Int × Int × Int × Int × Int × Int × Int
@[reducible] def Man.t (m : Man) : M9 := ((m.turn : Int), (m.age : Int), m.image, m.parts, (m.made : Int), (m.log : Int), (m.least : Int), (m.seq : Int), (m.serial : Int))
@[reducible] def m9v (x : M9) : List Value := [.int .u64 x.1, .int .u64 x.2.1, .int .i64 x.2.2.1, .int .i64 x.2.2.2.1, .int .u64 x.2.2.2.2.1, .int .u64 x.2.2.2.2.2.1, .int .u64 x.2.2.2.2.2.2.1, .int .u64 x.2.2.2.2.2.2.2.1, .int .u64 x.2.2.2.2.2.2.2.2]
@[reducible] def zMan : List Value := [.int .u64 0, .int .u64 0, .int .i64 0, .int .i64 0, .int .u64 0, .int .u64 0, .int .u64 0, .int .u64 0, .int .u64 0]
/-- The fields fit their types. -/
structure U9 (m : Man) : Prop where
  turn : m.turn < 2 ^ 64
  age : m.age < 2 ^ 64
  image : -9223372036854775808 ≤ m.image ∧ m.image ≤ 9223372036854775807
  parts : -9223372036854775808 ≤ m.parts ∧ m.parts ≤ 9223372036854775807
  made : m.made < 2 ^ 64
  log : m.log < 2 ^ 64
  least : m.least < 2 ^ 64
  seq : m.seq < 2 ^ 64
  serial : m.serial < 2 ^ 64
def May (m : Man) : Prop := (1 ≤ m.turn ∧ m.turn ≤ 4611686018427387904) ∧ (0 ≤ m.image ∧ m.image ≤ 1) ∧ (0 ≤ m.parts ∧ m.parts ≤ 65536) ∧ m.age ≤ 4611686018427387904 ∧ m.made ≤ 4611686018427387904 ∧ m.log ≤ 4611686018427387904 ∧ m.least ≤ 4611686018427387904 ∧ m.seq ≤ 4611686018427387904 ∧ m.serial ≤ 4611686018427387904
instance (m : Man) : Decidable (May m) := by unfold May; exact inferInstance
def payL (m : Man) : List Nat := [m.age, m.image.toNat, m.parts.toNat, m.made, m.log, m.least, m.seq, m.serial]
def pre (l : List Nat) (i : Nat) : List UInt8 := (l.take i).flatMap varB
def payM (m : Man) : List UInt8 := (payL m).flatMap varB
set_option maxRecDepth 100000 in
theorem payL_lt {m : Man} (h : May m) : ∀ v ∈ payL m, v ≤ 4611686018427387904 := by
  unfold May at h
  intro v hv
  simp only [payL, List.mem_cons, List.not_mem_nil, or_false] at hv
  omega
theorem pre_succ {l : List Nat} {i : Nat} (h : i < l.length) : pre l (i + 1) = pre l i ++ varB l[i] := by
  rw [pre, List.take_succ_eq_append_getElem h, List.flatMap_append, List.flatMap_cons, List.flatMap_nil, List.append_nil, pre]
/-- Reading at a number gives the number. -/
theorem read_pre {l : List Nat} (hl : ∀ v ∈ l, v < 2 ^ 64) {i : Nat} (h : i < l.length) : readVar (l.flatMap varB) ((pre l i).length : Int) = ((l[i] : Int), ((pre l (i + 1)).length : Int), 0) := by
  have e : l.flatMap varB = pre l i ++ (varB l[i] ++ (l.drop (i + 1)).flatMap varB) := by
    conv => lhs; rw [← List.take_append_drop i l]
    rw [List.flatMap_append, pre, List.drop_eq_getElem_cons h, List.flatMap_cons]
  rw [e, readVar_varB (hl _ (List.getElem_mem h)), pre_succ h, List.length_append]
end Go.Proofs
/- manifest.Read. Conditions: those of each contract. -/
namespace Go.Proofs
open Go Go.Vc Go.Crc
/-- So far as one has read, it is what any manifest of these bytes has. -/
def SoFar (pl : List UInt8) (vals : List Nat) (at_ : Nat) : Prop :=
  (∀ v ∈ vals, v < 2 ^ 64) ∧ at_ ≤ pl.length ∧ ∀ m, May m → payM m = pl → vals = (payL m).take vals.length ∧ at_ = (pre (payL m) vals.length).length
theorem SoFar.nil (pl : List UInt8) : SoFar pl [] 0 := ⟨by simp, by omega, fun m _ _ => ⟨rfl, rfl⟩⟩
theorem SoFar.read {pl : List UInt8} {vals : List Nat} {at_ : Nat} (h : SoFar pl vals at_) (h8 : vals.length < 8) {m : Man} (hm : May m) (hp : payM m = pl) :
    readVar pl (at_ : Int) = ((((payL m)[vals.length]'h8 : Nat) : Int), ((pre (payL m) (vals.length + 1)).length : Int), 0) := by
  rw [(h.2.2 m hm hp).2, ← hp]
  exact read_pre (fun v hv => by have := payL_lt hm v hv; omega) h8
theorem SoFar.next {pl : List UInt8} {vals : List Nat} {at_ u j : Nat} (h : SoFar pl vals at_) (h8 : vals.length < 8) (hu : u < 2 ^ 64) (hj : j ≤ pl.length) (hr : readVar pl (at_ : Int) = ((u : Int), (j : Int), 0)) : SoFar pl (vals ++ [u]) j := by
  refine ⟨fun v hv => ?_, hj, fun m hm hp => ?_⟩
  · rcases List.mem_append.1 hv with hv | hv
    · exact h.1 v hv
    · obtain rfl := by simpa using hv
      exact hu
  · have h1 := h.read h8 hm hp
    rw [hr] at h1
    simp only [Prod.mk.injEq, and_true] at h1
    have h2 : u = (payL m)[vals.length]'h8 := by omega
    have h3 : j = (pre (payL m) (vals.length + 1)).length := by omega
    refine ⟨?_, by simpa using h3⟩
    rw [List.length_append, List.length_singleton, List.take_succ_eq_append_getElem h8, ← (h.2.2 m hm hp).1, h2]
end Go.Proofs
/- Slices of texts: what reads as so many texts. Conditions: those that each lemma names. -/
namespace Go.Proofs
open Go Go.Vc
@[reducible] def encSV (s : SV) : List Value := [.slice s.a s.len s.cap]
@[reducible] def encTx (p : SV × List UInt8) : List Value := encSV p.1
/-- A slice that reads as these texts. -/
def RdL (w : World) (s : SV) (l : List (List UInt8)) : Prop := ∃ ps : List (SV × List UInt8), RdS encTx 1 w s ps ∧ ps.map Prod.snd = l ∧ ∀ p ∈ ps, RdB w p.1 p.2
theorem RdL.len {w : World} {s : SV} {l : List (List UInt8)} (h : RdL w s l) : s.len = l.length := by
  obtain ⟨ps, h1, rfl, _⟩ := h
  rw [h1.len, List.length_map]
theorem RdL.ext {w w' : World} {s : SV} {l : List (List UInt8)} (h : RdL w s l) (hu : Ext w w') : RdL w' s l := by
  obtain ⟨ps, h1, h2, h3⟩ := h
  exact ⟨ps, h1.ext hu, h2, fun p hp => (h3 p hp).ext hu⟩
/-- An element of it. -/
theorem RdL.at_ {w : World} {s : SV} {l : List (List UInt8)} (h : RdL w s l) {i : Nat} {x : List UInt8} (hx : l[i]? = some x) {K : Addr → Prop}
    (hk : ∀ A t, s.a = some A → w.cell? (A.add (i * 1)) = some (.slice t.a t.len t.cap) → RdB w t x → K A) : onP s.a K := by
  obtain ⟨ps, h1, rfl, h3⟩ := h
  rw [List.getElem?_map] at hx
  cases hp : ps[i]? with
  | none => rw [hp] at hx; simp at hx
  | some p =>
    rw [hp] at hx
    obtain rfl := Option.some.inj hx
    refine h1.get (i := i) (List.getElem?_eq_some_iff.1 hp).1 fun A hA => hk A p.1 hA ?_ (h3 p (List.mem_of_getElem? hp))
    exact h1.fld hp hA (k := 0) rfl
end Go.Proofs
/- dunnageref01.Reader: Num, Most. Conditions: those of each contract. -/
namespace Go.Proofs
open Go Go.Vc
/-- The reader's place and fault, and what Num makes of them. -/
def numR (l : List UInt8) (at_ err : Int) : Int × Int × Int :=
  if err ≠ 0 then (0, at_, err) else if (readVar l at_).2.2 ≠ 0 then (0, at_, (readVar l at_).2.2) else ((readVar l at_).1, (readVar l at_).2.1, 0)
def mostR (l : List UInt8) (at_ err n : Int) : Int × Int × Int :=
  if (numR l at_ err).2.2 ≠ 0 then (0, (numR l at_ err).2.1, (numR l at_ err).2.2) else if (numR l at_ err).1 > n then (0, (numR l at_ err).2.1, 11) else numR l at_ err
@[reducible] def rdV (s : SV) (at_ err : Int) : List Value := [.slice s.a s.len s.cap, .int .i64 at_, .int .i64 err]
theorem num.spec {w : World} {b : Nat} {s : SV} {l : List UInt8} {at_ err : Int} (hb : BK w b T.dunnageref01_Reader (rdV s at_ err)) (hs : RdB w s l) (hl : l.length ≤ 140737488351232) (ha : at_ ≤ 9223372036854775807) :
    CallT [.one (.int .u64)] Try.prog F.dunnageref01_Reader_Num [.pointer (some ⟨b, 0, none⟩)] w fun r w' => r = (numR l at_ err).1 ∧ BK w' b T.dunnageref01_Reader (rdV s (numR l at_ err).2.1 (numR l at_ err).2.2) ∧ Upd (fun x => x = b) w w' := by
  refine dunnageref01_Reader_Num.vc (some ⟨b, 0, none⟩) w _ ?_
  refine ⟨err, hb.get 2 rfl, cnd_bne (fun h => ?_) (fun h => ?_)⟩
  · rw [numR, if_pos h]; exact ⟨rfl, hb, Upd.refl _ _⟩
  have hd : BK w.drew b T.dunnageref01_Reader (rdV s at_ err) := hb
  have hlt := hb.lt
  refine ⟨fun w' => BK w' b T.dunnageref01_Reader (rdV s at_ err), hd, s, fun _ h => h.get 0 rfl, at_, fun _ h => h.get 1 rfl, CallT.mono (dunnageref01_ReadVar.spec (hs.ext (ext_drew _)) hl at_ ha) ?_⟩
  rintro ⟨v, n, e⟩ _ ⟨he, rfl⟩
  have b1 := hd
  have e01 : Ext w w.drew := ext_drew w
  have h1 : (readVar l at_).1 = v := by rw [← he]
  have h2 : (readVar l at_).2.1 = n := by rw [← he]
  have h3 : (readVar l at_).2.2 = e := by rw [← he]
  dsimp only
  refine cnd_bne (fun hne => ?_) (fun heq => ?_)
  · obtain ⟨c1, c2, c3⟩ := b1.store 2 (by simp) (.int .i64 e)
    refine ⟨c1, c2, ?_⟩
    rw [numR, if_neg (by simpa using h), h3, if_pos hne]
    exact ⟨rfl, c3, (e01.to _).set (p := Addr.add ⟨b, 0, none⟩ 2) (fun _ => by simp) _⟩
  · obtain ⟨c1, c2, c3⟩ := b1.store 1 (by simp) (.int .i64 n)
    refine ⟨c1, c2, ?_⟩
    rw [numR, if_neg (by simpa using h), h3, if_neg (by simpa using heq), h1, h2]
    refine ⟨rfl, ?_, (e01.to _).set (p := Addr.add ⟨b, 0, none⟩ 1) (fun _ => by simp) _⟩
    rw [h] at c3
    exact c3
theorem most.spec {w : World} {b : Nat} {s : SV} {l : List UInt8} {at_ err n : Int} (hb : BK w b T.dunnageref01_Reader (rdV s at_ err)) (hs : RdB w s l) (hl : l.length ≤ 140737488351232) (ha : at_ ≤ 9223372036854775807) (hn : 0 ≤ n ∧ n ≤ 1000000) (hv : 0 ≤ (numR l at_ err).1) :
    CallT [.one (.int .i64)] Try.prog F.dunnageref01_Reader_Most [.pointer (some ⟨b, 0, none⟩), .int .u64 n] w fun r w' => r = (mostR l at_ err n).1 ∧ BK w' b T.dunnageref01_Reader (rdV s (mostR l at_ err n).2.1 (mostR l at_ err n).2.2) ∧ Upd (fun x => x = b) w w' := by
  refine dunnageref01_Reader_Most.vc (some ⟨b, 0, none⟩) n w _ ?_
  refine CallT.mono (num.spec hb hs hl ha) ?_
  rintro _ w1 ⟨rfl, b1, u1⟩
  have hmo : mostR l at_ err n = if (numR l at_ err).2.2 ≠ 0 then (0, (numR l at_ err).2.1, (numR l at_ err).2.2) else if (numR l at_ err).1 > n then (0, (numR l at_ err).2.1, 11) else numR l at_ err := rfl
  generalize numR l at_ err = q at b1 hv hmo ⊢
  obtain ⟨x, p, e⟩ := q
  dsimp only at b1 hv hmo ⊢
  refine ⟨fun _ w' => BK w' b T.dunnageref01_Reader (rdV s (mostR l at_ err n).2.1 (mostR l at_ err n).2.2) ∧ Upd (fun x => x = b) w w', ⟨fun y w' => w1 = w' ∧ y = decide (e = 0 ∧ x > n), ⟨e, b1.get 2 rfl, cnd_beq (fun h => ⟨rfl, ?_⟩) (fun h => ⟨rfl, ?_⟩)⟩, ?_⟩, ?_⟩
  · rw [decide_eq_decide]; exact ⟨fun g => ⟨h, g⟩, fun g => g.2⟩
  · rw [eq_comm, decide_eq_false_iff_not]; exact fun g => h g.1
  · rintro _ _ _ ⟨rfl, rfl⟩
    refine cnd_dec (fun g => ?_) (fun g => ?_)
    · obtain ⟨c1, c2, c3⟩ := b1.store 2 (by simp) (.int .i64 11)
      rw [if_neg (by simpa using g.1), if_pos g.2] at hmo
      refine ⟨c1, c2, ?_, u1.set (p := Addr.add ⟨b, 0, none⟩ 2) (fun _ => by simp) _⟩
      rw [hmo]; exact c3
    · refine ⟨?_, u1⟩
      by_cases h : e = 0
      · rw [if_neg (by simpa using h), if_neg (fun h2 => g ⟨h, h2⟩)] at hmo
        rw [hmo]; exact b1
      · rw [if_pos h] at hmo
        rw [hmo]; exact b1
  rintro _ _ w2 ⟨b2, u2⟩
  refine ⟨_, b2.get 2 rfl, cnd_bne (fun h => ⟨?_, b2, u2⟩) (fun h => ⟨?_, b2, u2⟩)⟩
  · by_cases h1 : e = 0
    · by_cases h2 : x > n
      · rw [if_neg (by simpa using h1), if_pos h2] at hmo; rw [hmo]
      · rw [if_neg (by simpa using h1), if_neg h2] at hmo; rw [hmo] at h; exact absurd h1 h
    · rw [if_pos h1] at hmo; rw [hmo]
  · by_cases h1 : e = 0
    · by_cases h2 : x > n
      · rw [if_neg (by simpa using h1), if_pos h2] at hmo; rw [hmo] at h; exact absurd h (by simp)
      · rw [if_neg (by simpa using h1), if_neg h2] at hmo; rw [hmo]
        show IntKind.i64.wrap x = x
        rw [i64_id] <;> omega
    · rw [if_pos h1] at hmo; rw [hmo] at h; exact absurd h h1
end Go.Proofs
/- frame.Read and the document's: what any bytes are as a frame. Conditions: those of each contract. -/
namespace Go.Proofs
open Go Go.Vc
theorem numR_ok {l : List UInt8} {a e : Int} (h0 : 0 ≤ a) (h1 : a ≤ l.length) : 0 ≤ (numR l a e).1 ∧ (numR l a e).1 < 18446744073709551616 ∧ 0 ≤ (numR l a e).2.1 ∧ (numR l a e).2.1 ≤ l.length := by
  unfold numR
  split
  · exact ⟨by simp, by simp, h0, h1⟩
  split
  · exact ⟨by simp, by simp, h0, h1⟩
  · rename_i hz
    obtain ⟨i, j, u, g1, g2, g3, g4, g5, g6⟩ := readVar_ok (l := l) (a := a) (v := (readVar l a).1) (n := (readVar l a).2.1) (by
      have hz' : (readVar l a).2.2 = 0 := by simpa using hz
      rw [← hz'])
    refine ⟨?_, ?_, ?_, ?_⟩
    · show 0 ≤ (readVar l a).1; omega
    · show (readVar l a).1 < _; omega
    · show 0 ≤ (readVar l a).2.1; omega
    · show (readVar l a).2.1 ≤ _; omega
theorem mostR_ok {l : List UInt8} {a e n : Int} (h0 : 0 ≤ a) (h1 : a ≤ l.length) (hn : 0 ≤ n) : 0 ≤ (mostR l a e n).1 ∧ (mostR l a e n).1 ≤ n ∧ 0 ≤ (mostR l a e n).2.1 ∧ (mostR l a e n).2.1 ≤ l.length := by
  obtain ⟨g1, g2, g3, g4⟩ := numR_ok (e := e) h0 h1
  unfold mostR
  split
  · exact ⟨by simp, hn, g3, g4⟩
  split
  · exact ⟨by simp, hn, g3, g4⟩
  · exact ⟨g1, by omega, g3, g4⟩
end Go.Proofs
/- The document's Read of a manifest (this text is printed by tools/manrr.py). Conditions: those of each contract. -/
namespace Go.Proofs
open Go Go.Vc Go.Crc
/-- What the Reader says behind k calls. -/
def rk (pl : List UInt8) : Nat → Int × Int × Int
  | 0 => (0, 0, 0)
  | 1 => numR pl 0 0
  | 2 => mostR pl (rk pl 1).2.1 (rk pl 1).2.2 1
  | 3 => mostR pl (rk pl 2).2.1 (rk pl 2).2.2 65536
  | k + 1 => numR pl (rk pl k).2.1 (rk pl k).2.2
theorem rk_ok (pl : List UInt8) : ∀ k, 0 ≤ (rk pl k).1 ∧ (rk pl k).1 < 18446744073709551616 ∧ 0 ≤ (rk pl k).2.1 ∧ (rk pl k).2.1 ≤ pl.length ∧ (k = 2 → (rk pl k).1 ≤ 1) ∧ (k = 3 → (rk pl k).1 ≤ 65536)
  | 0 => by simp [rk]
  | 1 => by
    have := numR_ok (l := pl) (a := 0) (e := 0) (by omega) (by omega)
    rw [rk]; omega
  | 2 => by
    have h := rk_ok pl 1
    have := mostR_ok (l := pl) (e := (rk pl 1).2.2) (n := 1) h.2.2.1 h.2.2.2.1 (by omega)
    rw [rk]; omega
  | 3 => by
    have h := rk_ok pl 2
    have := mostR_ok (l := pl) (e := (rk pl 2).2.2) (n := 65536) h.2.2.1 h.2.2.2.1 (by omega)
    rw [rk]; omega
  | k + 4 => by
    have h := rk_ok pl (k + 3)
    have := numR_ok (l := pl) (e := (rk pl (k + 3)).2.2) h.2.2.1 h.2.2.2.1
    rw [show rk pl (k + 4) = numR pl (rk pl (k + 3)).2.1 (rk pl (k + 3)).2.2 from rfl]; omega
structure St (w0 : World) (rb : Nat) (q : SV) (pl : List UInt8) (k : Nat) (w1 : World) : Prop where
  bk : BK w1 rb T.dunnageref01_Reader (rdV q (rk pl k).2.1 (rk pl k).2.2)
  u : Upd (fun x => x = rb) w0 w1
variable {w0 w1 : World} {rb : Nat} {q : SV} {pl : List UInt8}
theorem St.alloc {k : Nat} (h : St w0 rb q pl k w1) (ob : Obj) : St w0 rb q pl k (w1.alloc ob) := ⟨h.bk.alloc ob, h.u.alloc ob⟩
theorem St.step (hq : RdB w0 q pl) (hqb : ∀ c, q.blk c → c ≠ rb) (hl : pl.length ≤ 1000) {k : Nat} (h : St w0 rb q pl k w1) (hr : rk pl (k + 1) = numR pl (rk pl k).2.1 (rk pl k).2.2) :
    CallT [.one (.int .u64)] Try.prog F.dunnageref01_Reader_Num [.pointer (some ⟨rb, 0, none⟩)] w1 fun r w2 => r = (rk pl (k + 1)).1 ∧ St w0 rb q pl (k + 1) w2 ∧ Upd (fun x => x = rb) w1 w2 := by
  have hb := rk_ok pl k
  refine CallT.mono (num.spec h.bk (hq.upd h.u fun c hc hx => hqb c hc hx) (by omega) (by omega)) ?_
  rintro _ w2 ⟨rfl, h2, h3⟩
  rw [← hr] at h2 ⊢
  exact ⟨rfl, ⟨h2, h.u.tr h3⟩, h3⟩
theorem St.stepM (hq : RdB w0 q pl) (hqb : ∀ c, q.blk c → c ≠ rb) (hl : pl.length ≤ 1000) {k : Nat} {n : Int} (hn : 0 ≤ n ∧ n ≤ 1000000) (h : St w0 rb q pl k w1) (hr : rk pl (k + 1) = mostR pl (rk pl k).2.1 (rk pl k).2.2 n) :
    CallT [.one (.int .i64)] Try.prog F.dunnageref01_Reader_Most [.pointer (some ⟨rb, 0, none⟩), .int .u64 n] w1 fun r w2 => r = (rk pl (k + 1)).1 ∧ St w0 rb q pl (k + 1) w2 ∧ Upd (fun x => x = rb) w1 w2 := by
  have hb := rk_ok pl k
  have hv := numR_ok (l := pl) (e := (rk pl k).2.2) hb.2.2.1 hb.2.2.2.1
  refine CallT.mono (most.spec h.bk (hq.upd h.u fun c hc hx => hqb c hc hx) (by omega) (by omega) hn hv.1) ?_
  rintro _ w2 ⟨rfl, h2, h3⟩
  rw [← hr] at h2 ⊢
  exact ⟨rfl, ⟨h2, h.u.tr h3⟩, h3⟩
/-- What is known at the end. -/
structure Fin8 (w0 : World) (rb : Nat) (q : SV) (pl : List UInt8) (tn : Int) (mb : Nat) (w1 : World) : Prop where
  st : St w0 rb q pl 8 w1
  m : BK w1 mb T.api_Manifest [.int .u64 tn, .int .u64 (rk pl 1).1, .int .i64 (rk pl 2).1, .int .i64 (rk pl 3).1, .int .u64 (rk pl 4).1, .int .u64 (rk pl 5).1, .int .u64 (rk pl 6).1, .int .u64 (rk pl 7).1, .int .u64 (rk pl 8).1]
  ge : w0.heap.size ≤ mb
theorem t8 {K : Option Addr → World → Prop} {tn : Int} (hK : ∀ mb w1, Fin8 w0 rb q pl tn mb w1 → K (some ⟨mb, 0, none⟩) w1) {mb : Nat} (hs : St w0 rb q pl 8 w1) (hb : BK w1 mb T.api_Manifest zMan) (hm : mb ≠ rb) (hg : w0.heap.size ≤ mb) :
    canSt w1 ⟨mb, 0, none⟩ 9 ∧ K (some ⟨mb, 0, none⟩) (setCells w1 ⟨mb, 0, none⟩ 0 [.int .u64 tn, .int .u64 (rk pl 1).1, .int .i64 (rk pl 2).1, .int .i64 (rk pl 3).1, .int .u64 (rk pl 4).1, .int .u64 (rk pl 5).1, .int .u64 (rk pl 6).1, .int .u64 (rk pl 7).1, .int .u64 (rk pl 8).1]) := by
  refine ⟨hb.can (by simp), hK mb _ ⟨⟨hs.bk.sets_ne (A := ⟨mb, 0, none⟩) (fun h => hm h.symm) 0 _, ?_⟩, hb.set (by simp), hg⟩⟩
  exact hs.u.setCells (p := ⟨mb, 0, none⟩) (fun h => by have h' : mb < w0.heap.size := h; omega) 0 _
theorem t7 {K : Option Addr → World → Prop} {tn : Int} (hq : RdB w0 q pl) (hqb : ∀ c, q.blk c → c ≠ rb) (hl : pl.length ≤ 1000) (hK : ∀ mb w1, Fin8 w0 rb q pl tn mb w1 → K (some ⟨mb, 0, none⟩) w1) {mb : Nat} (hs : St w0 rb q pl 7 w1) (hb : BK w1 mb T.api_Manifest zMan) (hm : mb ≠ rb) (hg : w0.heap.size ≤ mb) :
    CallT [.one (.int .u64)] Try.prog F.dunnageref01_Reader_Num [.pointer (some ⟨rb, 0, none⟩)] w1 fun x8 v8 => Upd (fun x => x = rb) w0 v8 ∧ canSt v8 ⟨mb, 0, none⟩ 9 ∧ K (some ⟨mb, 0, none⟩) (setCells v8 ⟨mb, 0, none⟩ 0 [.int .u64 tn, .int .u64 (rk pl 1).1, .int .i64 (rk pl 2).1, .int .i64 (rk pl 3).1, .int .u64 (rk pl 4).1, .int .u64 (rk pl 5).1, .int .u64 (rk pl 6).1, .int .u64 (rk pl 7).1, .int .u64 x8]) := by
  refine CallT.mono (St.step hq hqb hl hs rfl) ?_
  rintro _ w2 ⟨rfl, h2, h3⟩
  exact ⟨h2.u, t8 hK h2 (hb.upd h3 hm) hm hg⟩
theorem t6 {K : Option Addr → World → Prop} {tn : Int} (hq : RdB w0 q pl) (hqb : ∀ c, q.blk c → c ≠ rb) (hl : pl.length ≤ 1000) (hK : ∀ mb w1, Fin8 w0 rb q pl tn mb w1 → K (some ⟨mb, 0, none⟩) w1) {mb : Nat} (hs : St w0 rb q pl 6 w1) (hb : BK w1 mb T.api_Manifest zMan) (hm : mb ≠ rb) (hg : w0.heap.size ≤ mb) :
    CallT [.one (.int .u64)] Try.prog F.dunnageref01_Reader_Num [.pointer (some ⟨rb, 0, none⟩)] w1 fun x7 v7 => Upd (fun x => x = rb) w0 v7 ∧ CallT [.one (.int .u64)] Try.prog F.dunnageref01_Reader_Num [.pointer (some ⟨rb, 0, none⟩)] v7 fun x8 v8 => Upd (fun x => x = rb) w0 v8 ∧ canSt v8 ⟨mb, 0, none⟩ 9 ∧ K (some ⟨mb, 0, none⟩) (setCells v8 ⟨mb, 0, none⟩ 0 [.int .u64 tn, .int .u64 (rk pl 1).1, .int .i64 (rk pl 2).1, .int .i64 (rk pl 3).1, .int .u64 (rk pl 4).1, .int .u64 (rk pl 5).1, .int .u64 (rk pl 6).1, .int .u64 x7, .int .u64 x8]) := by
  refine CallT.mono (St.step hq hqb hl hs rfl) ?_
  rintro _ w2 ⟨rfl, h2, h3⟩
  exact ⟨h2.u, t7 hq hqb hl hK h2 (hb.upd h3 hm) hm hg⟩
theorem t5 {K : Option Addr → World → Prop} {tn : Int} (hq : RdB w0 q pl) (hqb : ∀ c, q.blk c → c ≠ rb) (hl : pl.length ≤ 1000) (hK : ∀ mb w1, Fin8 w0 rb q pl tn mb w1 → K (some ⟨mb, 0, none⟩) w1) {mb : Nat} (hs : St w0 rb q pl 5 w1) (hb : BK w1 mb T.api_Manifest zMan) (hm : mb ≠ rb) (hg : w0.heap.size ≤ mb) :
    CallT [.one (.int .u64)] Try.prog F.dunnageref01_Reader_Num [.pointer (some ⟨rb, 0, none⟩)] w1 fun x6 v6 => Upd (fun x => x = rb) w0 v6 ∧ CallT [.one (.int .u64)] Try.prog F.dunnageref01_Reader_Num [.pointer (some ⟨rb, 0, none⟩)] v6 fun x7 v7 => Upd (fun x => x = rb) w0 v7 ∧ CallT [.one (.int .u64)] Try.prog F.dunnageref01_Reader_Num [.pointer (some ⟨rb, 0, none⟩)] v7 fun x8 v8 => Upd (fun x => x = rb) w0 v8 ∧ canSt v8 ⟨mb, 0, none⟩ 9 ∧ K (some ⟨mb, 0, none⟩) (setCells v8 ⟨mb, 0, none⟩ 0 [.int .u64 tn, .int .u64 (rk pl 1).1, .int .i64 (rk pl 2).1, .int .i64 (rk pl 3).1, .int .u64 (rk pl 4).1, .int .u64 (rk pl 5).1, .int .u64 x6, .int .u64 x7, .int .u64 x8]) := by
  refine CallT.mono (St.step hq hqb hl hs rfl) ?_
  rintro _ w2 ⟨rfl, h2, h3⟩
  exact ⟨h2.u, t6 hq hqb hl hK h2 (hb.upd h3 hm) hm hg⟩
theorem t4 {K : Option Addr → World → Prop} {tn : Int} (hq : RdB w0 q pl) (hqb : ∀ c, q.blk c → c ≠ rb) (hl : pl.length ≤ 1000) (hK : ∀ mb w1, Fin8 w0 rb q pl tn mb w1 → K (some ⟨mb, 0, none⟩) w1) {mb : Nat} (hs : St w0 rb q pl 4 w1) (hb : BK w1 mb T.api_Manifest zMan) (hm : mb ≠ rb) (hg : w0.heap.size ≤ mb) :
    CallT [.one (.int .u64)] Try.prog F.dunnageref01_Reader_Num [.pointer (some ⟨rb, 0, none⟩)] w1 fun x5 v5 => Upd (fun x => x = rb) w0 v5 ∧ CallT [.one (.int .u64)] Try.prog F.dunnageref01_Reader_Num [.pointer (some ⟨rb, 0, none⟩)] v5 fun x6 v6 => Upd (fun x => x = rb) w0 v6 ∧ CallT [.one (.int .u64)] Try.prog F.dunnageref01_Reader_Num [.pointer (some ⟨rb, 0, none⟩)] v6 fun x7 v7 => Upd (fun x => x = rb) w0 v7 ∧ CallT [.one (.int .u64)] Try.prog F.dunnageref01_Reader_Num [.pointer (some ⟨rb, 0, none⟩)] v7 fun x8 v8 => Upd (fun x => x = rb) w0 v8 ∧ canSt v8 ⟨mb, 0, none⟩ 9 ∧ K (some ⟨mb, 0, none⟩) (setCells v8 ⟨mb, 0, none⟩ 0 [.int .u64 tn, .int .u64 (rk pl 1).1, .int .i64 (rk pl 2).1, .int .i64 (rk pl 3).1, .int .u64 (rk pl 4).1, .int .u64 x5, .int .u64 x6, .int .u64 x7, .int .u64 x8]) := by
  refine CallT.mono (St.step hq hqb hl hs rfl) ?_
  rintro _ w2 ⟨rfl, h2, h3⟩
  exact ⟨h2.u, t5 hq hqb hl hK h2 (hb.upd h3 hm) hm hg⟩
theorem t3 {K : Option Addr → World → Prop} {tn : Int} (hq : RdB w0 q pl) (hqb : ∀ c, q.blk c → c ≠ rb) (hl : pl.length ≤ 1000) (hK : ∀ mb w1, Fin8 w0 rb q pl tn mb w1 → K (some ⟨mb, 0, none⟩) w1) {mb : Nat} (hs : St w0 rb q pl 3 w1) (hb : BK w1 mb T.api_Manifest zMan) (hm : mb ≠ rb) (hg : w0.heap.size ≤ mb) :
    CallT [.one (.int .u64)] Try.prog F.dunnageref01_Reader_Num [.pointer (some ⟨rb, 0, none⟩)] w1 fun x4 v4 => Upd (fun x => x = rb) w0 v4 ∧ CallT [.one (.int .u64)] Try.prog F.dunnageref01_Reader_Num [.pointer (some ⟨rb, 0, none⟩)] v4 fun x5 v5 => Upd (fun x => x = rb) w0 v5 ∧ CallT [.one (.int .u64)] Try.prog F.dunnageref01_Reader_Num [.pointer (some ⟨rb, 0, none⟩)] v5 fun x6 v6 => Upd (fun x => x = rb) w0 v6 ∧ CallT [.one (.int .u64)] Try.prog F.dunnageref01_Reader_Num [.pointer (some ⟨rb, 0, none⟩)] v6 fun x7 v7 => Upd (fun x => x = rb) w0 v7 ∧ CallT [.one (.int .u64)] Try.prog F.dunnageref01_Reader_Num [.pointer (some ⟨rb, 0, none⟩)] v7 fun x8 v8 => Upd (fun x => x = rb) w0 v8 ∧ canSt v8 ⟨mb, 0, none⟩ 9 ∧ K (some ⟨mb, 0, none⟩) (setCells v8 ⟨mb, 0, none⟩ 0 [.int .u64 tn, .int .u64 (rk pl 1).1, .int .i64 (rk pl 2).1, .int .i64 (rk pl 3).1, .int .u64 x4, .int .u64 x5, .int .u64 x6, .int .u64 x7, .int .u64 x8]) := by
  refine CallT.mono (St.step hq hqb hl hs rfl) ?_
  rintro _ w2 ⟨rfl, h2, h3⟩
  exact ⟨h2.u, t4 hq hqb hl hK h2 (hb.upd h3 hm) hm hg⟩
theorem t2 {K : Option Addr → World → Prop} {tn : Int} (hq : RdB w0 q pl) (hqb : ∀ c, q.blk c → c ≠ rb) (hl : pl.length ≤ 1000) (hK : ∀ mb w1, Fin8 w0 rb q pl tn mb w1 → K (some ⟨mb, 0, none⟩) w1) {mb : Nat} (hs : St w0 rb q pl 2 w1) (hb : BK w1 mb T.api_Manifest zMan) (hm : mb ≠ rb) (hg : w0.heap.size ≤ mb) :
    CallT [.one (.int .i64)] Try.prog F.dunnageref01_Reader_Most [.pointer (some ⟨rb, 0, none⟩), .int .u64 65536] w1 fun x3 v3 => Upd (fun x => x = rb) w0 v3 ∧ CallT [.one (.int .u64)] Try.prog F.dunnageref01_Reader_Num [.pointer (some ⟨rb, 0, none⟩)] v3 fun x4 v4 => Upd (fun x => x = rb) w0 v4 ∧ CallT [.one (.int .u64)] Try.prog F.dunnageref01_Reader_Num [.pointer (some ⟨rb, 0, none⟩)] v4 fun x5 v5 => Upd (fun x => x = rb) w0 v5 ∧ CallT [.one (.int .u64)] Try.prog F.dunnageref01_Reader_Num [.pointer (some ⟨rb, 0, none⟩)] v5 fun x6 v6 => Upd (fun x => x = rb) w0 v6 ∧ CallT [.one (.int .u64)] Try.prog F.dunnageref01_Reader_Num [.pointer (some ⟨rb, 0, none⟩)] v6 fun x7 v7 => Upd (fun x => x = rb) w0 v7 ∧ CallT [.one (.int .u64)] Try.prog F.dunnageref01_Reader_Num [.pointer (some ⟨rb, 0, none⟩)] v7 fun x8 v8 => Upd (fun x => x = rb) w0 v8 ∧ canSt v8 ⟨mb, 0, none⟩ 9 ∧ K (some ⟨mb, 0, none⟩) (setCells v8 ⟨mb, 0, none⟩ 0 [.int .u64 tn, .int .u64 (rk pl 1).1, .int .i64 (rk pl 2).1, .int .i64 x3, .int .u64 x4, .int .u64 x5, .int .u64 x6, .int .u64 x7, .int .u64 x8]) := by
  refine CallT.mono (St.stepM hq hqb hl (n := 65536) (by decide) hs rfl) ?_
  rintro _ w2 ⟨rfl, h2, h3⟩
  exact ⟨h2.u, t3 hq hqb hl hK h2 (hb.upd h3 hm) hm hg⟩
theorem t1 {K : Option Addr → World → Prop} {tn : Int} (hq : RdB w0 q pl) (hqb : ∀ c, q.blk c → c ≠ rb) (hl : pl.length ≤ 1000) (hK : ∀ mb w1, Fin8 w0 rb q pl tn mb w1 → K (some ⟨mb, 0, none⟩) w1) {mb : Nat} (hs : St w0 rb q pl 1 w1) (hb : BK w1 mb T.api_Manifest zMan) (hm : mb ≠ rb) (hg : w0.heap.size ≤ mb) :
    CallT [.one (.int .i64)] Try.prog F.dunnageref01_Reader_Most [.pointer (some ⟨rb, 0, none⟩), .int .u64 1] w1 fun x2 v2 => Upd (fun x => x = rb) w0 v2 ∧ CallT [.one (.int .i64)] Try.prog F.dunnageref01_Reader_Most [.pointer (some ⟨rb, 0, none⟩), .int .u64 65536] v2 fun x3 v3 => Upd (fun x => x = rb) w0 v3 ∧ CallT [.one (.int .u64)] Try.prog F.dunnageref01_Reader_Num [.pointer (some ⟨rb, 0, none⟩)] v3 fun x4 v4 => Upd (fun x => x = rb) w0 v4 ∧ CallT [.one (.int .u64)] Try.prog F.dunnageref01_Reader_Num [.pointer (some ⟨rb, 0, none⟩)] v4 fun x5 v5 => Upd (fun x => x = rb) w0 v5 ∧ CallT [.one (.int .u64)] Try.prog F.dunnageref01_Reader_Num [.pointer (some ⟨rb, 0, none⟩)] v5 fun x6 v6 => Upd (fun x => x = rb) w0 v6 ∧ CallT [.one (.int .u64)] Try.prog F.dunnageref01_Reader_Num [.pointer (some ⟨rb, 0, none⟩)] v6 fun x7 v7 => Upd (fun x => x = rb) w0 v7 ∧ CallT [.one (.int .u64)] Try.prog F.dunnageref01_Reader_Num [.pointer (some ⟨rb, 0, none⟩)] v7 fun x8 v8 => Upd (fun x => x = rb) w0 v8 ∧ canSt v8 ⟨mb, 0, none⟩ 9 ∧ K (some ⟨mb, 0, none⟩) (setCells v8 ⟨mb, 0, none⟩ 0 [.int .u64 tn, .int .u64 (rk pl 1).1, .int .i64 x2, .int .i64 x3, .int .u64 x4, .int .u64 x5, .int .u64 x6, .int .u64 x7, .int .u64 x8]) := by
  refine CallT.mono (St.stepM hq hqb hl (n := 1) (by decide) hs rfl) ?_
  rintro _ w2 ⟨rfl, h2, h3⟩
  exact ⟨h2.u, t2 hq hqb hl hK h2 (hb.upd h3 hm) hm hg⟩
theorem t0 {K : Option Addr → World → Prop} {tn : Int} (hq : RdB w0 q pl) (hqb : ∀ c, q.blk c → c ≠ rb) (hl : pl.length ≤ 1000) (hK : ∀ mb w1, Fin8 w0 rb q pl tn mb w1 → K (some ⟨mb, 0, none⟩) w1) {mb : Nat} (hs : St w0 rb q pl 0 w1) (hb : BK w1 mb T.api_Manifest zMan) (hm : mb ≠ rb) (hg : w0.heap.size ≤ mb) :
    CallT [.one (.int .u64)] Try.prog F.dunnageref01_Reader_Num [.pointer (some ⟨rb, 0, none⟩)] w1 fun x1 v1 => Upd (fun x => x = rb) w0 v1 ∧ CallT [.one (.int .i64)] Try.prog F.dunnageref01_Reader_Most [.pointer (some ⟨rb, 0, none⟩), .int .u64 1] v1 fun x2 v2 => Upd (fun x => x = rb) w0 v2 ∧ CallT [.one (.int .i64)] Try.prog F.dunnageref01_Reader_Most [.pointer (some ⟨rb, 0, none⟩), .int .u64 65536] v2 fun x3 v3 => Upd (fun x => x = rb) w0 v3 ∧ CallT [.one (.int .u64)] Try.prog F.dunnageref01_Reader_Num [.pointer (some ⟨rb, 0, none⟩)] v3 fun x4 v4 => Upd (fun x => x = rb) w0 v4 ∧ CallT [.one (.int .u64)] Try.prog F.dunnageref01_Reader_Num [.pointer (some ⟨rb, 0, none⟩)] v4 fun x5 v5 => Upd (fun x => x = rb) w0 v5 ∧ CallT [.one (.int .u64)] Try.prog F.dunnageref01_Reader_Num [.pointer (some ⟨rb, 0, none⟩)] v5 fun x6 v6 => Upd (fun x => x = rb) w0 v6 ∧ CallT [.one (.int .u64)] Try.prog F.dunnageref01_Reader_Num [.pointer (some ⟨rb, 0, none⟩)] v6 fun x7 v7 => Upd (fun x => x = rb) w0 v7 ∧ CallT [.one (.int .u64)] Try.prog F.dunnageref01_Reader_Num [.pointer (some ⟨rb, 0, none⟩)] v7 fun x8 v8 => Upd (fun x => x = rb) w0 v8 ∧ canSt v8 ⟨mb, 0, none⟩ 9 ∧ K (some ⟨mb, 0, none⟩) (setCells v8 ⟨mb, 0, none⟩ 0 [.int .u64 tn, .int .u64 x1, .int .i64 x2, .int .i64 x3, .int .u64 x4, .int .u64 x5, .int .u64 x6, .int .u64 x7, .int .u64 x8]) := by
  refine CallT.mono (St.step hq hqb hl hs rfl) ?_
  rintro _ w2 ⟨rfl, h2, h3⟩
  exact ⟨h2.u, t1 hq hqb hl hK h2 (hb.upd h3 hm) hm hg⟩
end Go.Proofs
