/- Texts that the claim leans on, one behind the other: each begins with a sentence of its own. Conditions: those that each names. -/
import Derived.Below
import Derived.ChangeOld
import Derived.Deep.Quiet
import Derived.KernelRfl
import Derived.Laws.Cells
import Derived.Laws.Entries
import Derived.Laws.Sem
import Derived.Laws.Strings
import Derived.Laws.World
import Derived.Lib.SlBytesConst
import Derived.OpenShut
import Derived.Orders
import Derived.OrdersHeld
import Derived.ProofKit
import Derived.ShutString
import Derived.SizedLaws
import Derived.StillTail
import Derived.Tactics
import Derived.Test.YtinolellciikoaaProg
import Derived.Test.YtinolellciikoaaRows
import Derived.Test.YtinolellciikoaaPkT3
/- scrub.Part and Look; what chapter 29 is awake by. Conditions: those of each contract. -/
namespace Go.Proofs
open Go Go.Vc Go.Crc
section
variable {D : DK} {x : L9} {f n : Int}
theorem partR_lay (h : x ≠ LY) : partR D x f n = ([], 1) := by rw [partR, if_pos h]
theorem partR_down (h : D.down = true) : partR D LY f n = ([], 40) := by rw [partR, if_neg (by simp), if_pos h]
theorem partR_arg (h : D.down = false) (h2 : f < 0 ∨ n < 0 ∨ f > 256 ∨ n > 256 - f) : partR D LY f n = ([], 1) := by rw [partR, if_neg (by simp), if_neg (by rw [h]; simp), if_pos h2]
theorem partR_ok (h : D.down = false) (h2 : ¬ (f < 0 ∨ n < 0 ∨ f > 256 ∨ n > 256 - f)) : partR D LY f n = (badsD D f.toNat n.toNat, 0) := by rw [partR, if_neg (by simp), if_neg (by rw [h]; simp), if_neg h2]
end
theorem showD_len (D : DK) (i : Nat) : (showD D i).1.length = 512 := (showD D i).2
set_option maxRecDepth 100000 in
set_option maxHeartbeats 1000000 in
theorem scrub_Part.spec {w : World} {d : Nat} {k s : SV} {D : DK} (h : DkAt w d k s D) (h256 : D.kept.length = 256) (hw : D.waits.length ≤ 2000000) (x : L9) {f n : Int} (hn : -9223372036854775808 ≤ n ∧ n ≤ 9223372036854775807) :
    CallT [.one .slice, .one (.int .i64)] Try.prog F.scrub_Part [dptr d, x.v, .int .i64 f, .int .i64 n] w fun r w' => OwnS encBad 2 T.api_Bad w' w.heap.size r.1 (partR D x f n).1 ∧ r.2 = (partR D x f n).2 ∧ Ext w w' := by
  refine scrub_Part.vc (some ⟨d, 0, none⟩) x f n w _ ?_
  have b1 := LB.new w x
  have e1 := ext_alloc w (.cells x.vs.toArray T.api_Layout)
  dsimp only
  generalize w.alloc _ = w1 at *
  refine cnd_neg rfl ?_
  have no : ∀ {w' : World} {c : Int}, Ext w w' → partR D x f n = ([], c) → OwnS encBad 2 T.api_Bad w' w.heap.size ⟨none, 0, 0⟩ (partR D x f n).1 ∧ c = (partR D x f n).2 ∧ Ext w w' := fun e hp => by
    rw [hp]; exact ⟨OwnS.nil encBad_len (by decide) _ _ _, rfl, e⟩
  refine ⟨fun _ v => Ext w1 v ∧ x = LY, CallT.mono (disk_Size.spec (h.ext e1)) ?_, ?_⟩
  · rintro _ _ ⟨rfl, rfl⟩
    rw [h256]
    refine CallT.mono (layout_Plan.spec ((256 : Nat) : Int) w1) ?_
    rintro ⟨y, ey⟩ w2 ⟨hy, e2⟩
    rw [show planF ((256 : Nat) : Int) = (LY, 0) from plan256] at hy
    obtain ⟨rfl, rfl⟩ := Prod.mk.inj hy
    generalize ha3 : w2.alloc _ = w3
    generalize hd3 : setCells w3 _ 0 _ = w4
    obtain ⟨c4, b4, e4, z4⟩ := bk_mk (T := T.api_Layout) (z := lay0.vs) (vs := LY.vs) ha3 hd3 rfl
    refine ⟨c4, cnd_neg rfl ⟨LY, b4.all, x, ((b1.ext e2).ext e4).all, ?_⟩⟩
    by_cases hx : x = LY
    · subst hx
      exact cnd_neg (by rw [leq_self]; rfl) ⟨e2.tr e4, rfl⟩
    · exact cnd_pos (by rw [leq_ne (fun g => hx g.symm)]; rfl) (no ((e1.tr e2).tr e4) (partR_lay hx))
  rintro _ _ w2 ⟨e2, rfl⟩
  have f2 := e1.tr e2
  have b2 := b1.ext e2
  refine CallT.mono (disk_Down.spec (h.ext f2)) ?_
  rintro _ _ ⟨rfl, rfl⟩
  cases hdn : D.down with
  | true => exact cnd_pos rfl (no f2 (partR_down hdn))
  | false =>
  refine cnd_neg rfl ⟨fun _ v => w2 = v ∧ ¬ (f < 0 ∨ n < 0 ∨ f > 256 ∨ n > 256 - f), cnd_dec (fun g => no f2 (partR_arg hdn (.inl g))) fun g1 => cnd_dec (fun g => no f2 (partR_arg hdn (.inr (.inl g)))) fun g2 => ⟨256, b2.get 0 rfl, cnd_dec (fun g => no f2 (partR_arg hdn (.inr (.inr (.inl g))))) fun g3 => ⟨256, b2.get 0 rfl, ?_⟩⟩, ?_⟩
  · rw [i64_id (by omega) (by omega)]
    exact cnd_dec (fun g => no f2 (partR_arg hdn (.inr (.inr (.inr g))))) fun g4 => ⟨rfl, by omega⟩
  rintro _ _ _ ⟨rfl, hg⟩
  rw [partR_ok hdn hg]
  obtain ⟨f0, rfl⟩ : ∃ q : Nat, f = q := ⟨f.toNat, by omega⟩
  obtain ⟨n0, rfl⟩ : ∃ q : Nat, n = q := ⟨n.toNat, by omega⟩
  simp only [Int.toNat_natCast]
  have sz1 := e1.size
  refine ⟨fun m y v => ∃ (i : Nat) (t : SV), y = (t, (i : Int)) ∧ i ≤ n0 ∧ m = n0 - i ∧ OwnS encBad 2 T.api_Bad v w1.heap.size t (badsD D f0 i) ∧ Ext w1 v, ⟨_, 0, ⟨none, 0, 0⟩, rfl, by omega, rfl, OwnS.nil encBad_len (by decide) _ _ _, e2⟩, ?_⟩
  rintro m _ _ v1 ⟨i, t, rfl, hi, rfl, ht, g1⟩
  dsimp only
  refine cnd_dec (fun hlt => ?_) (fun hge => ?_)
  · have hw1 : IntKind.i64.wrap ((f0 : Int) + (i : Int)) = ((f0 + i : Nat) : Int) := by rw [i64_id (by omega) (by omega)]; simp
    have hw2 : IntKind.i64.wrap ((i : Int) + 1) = ((i + 1 : Nat) : Int) := by rw [i64_id (by omega) (by omega)]; simp
    rw [hw1, hw2]
    refine CallT.mono (disk_Read.spec (h.ext (e1.tr g1)) hw ((f0 + i : Nat) : Int)) ?_
    have hrd : readD D ((f0 + i : Nat) : Int) = ((showD D (f0 + i)).1, 0) := by
      rw [readD, if_neg (by rw [hdn]; simp), if_neg (by omega), Int.toNat_natCast]
    rw [hrd]
    rintro ⟨q, qe⟩ v2 ⟨hq, hqe, e3⟩
    dsimp only at hq hqe ⊢
    subst hqe
    have hlen := showD_len D (f0 + i)
    refine cnd_neg rfl (CallT.mono (sector_Good.spec hq.rd hq.cap_le (by omega)) ?_)
    rintro _ v3 ⟨rfl, e4⟩
    have g3 := (g1.tr e3).tr e4
    have bl3 := b1.ext g3
    have ht3 := (ht.ext e3).ext e4
    have hbl := badsD_len D f0 i
    have htl := ht3.len
    refine cnd_not (fun hb => ?_) (fun hg2 => ?_)
    · refine ⟨LY, bl3.all, CallT.mono (layout_Region.spec pl256 ((f0 + i : Nat) : Int) v3) ?_⟩
      rintro _ v4 ⟨rfl, e5⟩
      refine app_new (m := 1) (vs := encBad (badAt (f0 + i))) appBad (g3.tr e5) (ht3.ext e5).own rfl (by intro v hv; simp [encBad] at hv; rcases hv with rfl | rfl <;> rfl) (by omega) ?_
      intro s' v5 ho e6 hl6 _
      refine ⟨n0 - (i + 1), by omega, i + 1, s', rfl, by omega, rfl, ⟨?_, encBad_len, by decide⟩, e6⟩
      rw [badsD_succ, if_neg (by rw [goodB, hb]; simp), List.flatMap_append]; simpa using ho
    · refine ⟨n0 - (i + 1), by omega, i + 1, t, rfl, by omega, rfl, ?_, g3⟩
      have hg3 : goodB (showD D (f0 + i)).1 = true := hg2
      rw [badsD_succ, if_pos hg3, List.append_nil]; exact ht3
  · have hi' : i = n0 := by omega
    subst hi'
    exact ⟨⟨ht.own.mono sz1, encBad_len, by decide⟩, by simp, e1.tr g1⟩
set_option maxRecDepth 100000 in
theorem scrub_Look.spec {w : World} {d : Nat} {k s : SV} {D : DK} (h : DkAt w d k s D) (h256 : D.kept.length = 256) (hw : D.waits.length ≤ 2000000) (x : L9) :
    CallT [.one .slice, .one (.int .i64)] Try.prog F.scrub_Look [dptr d, x.v] w fun r w' => OwnS encBad 2 T.api_Bad w' w.heap.size r.1 (partR D x 0 256).1 ∧ r.2 = (partR D x 0 256).2 ∧ Ext w w' := by
  refine scrub_Look.vc (some ⟨d, 0, none⟩) x w _ ?_
  have b1 := LB.new w x
  have e1 := ext_alloc w (.cells x.vs.toArray T.api_Layout)
  dsimp only
  generalize w.alloc _ = w1 at *
  have e2 := e1.tr (ext_drew w1)
  have b2 := b1.ext (ext_drew w1)
  refine ⟨fun v => LB v w.heap.size x, b2, x, fun v hv => hv.all, CallT.mono (disk_Size.spec (h.ext e2)) ?_⟩
  rintro _ _ ⟨rfl, rfl⟩
  rw [h256]
  refine ⟨b2, CallT.mono (scrub_Part.spec (h.ext e2) h256 hw x (f := 0) (n := ((256 : Nat) : Int)) (by decide)) ?_⟩
  rintro ⟨r, re⟩ w3 ⟨hr, hre, e3⟩
  exact ⟨⟨hr.own.mono e2.size, encBad_len, by decide⟩, hre, e2.tr e3⟩
theorem scrub_Part.nil (x : L9) (f n : Int) (w : World) :
    CallT [.one .slice, .one (.int .i64)] Try.prog F.scrub_Part [.pointer none, x.v, .int .i64 f, .int .i64 n] w fun r w' => r = (⟨none, 0, 0⟩, 2) ∧ Ext w w' := by
  refine scrub_Part.vc none x f n w _ ?_
  exact cnd_pos rfl ⟨rfl, ext_alloc _ _⟩
end Go.Proofs
/- dunnagelaw29.ScrubNil: a nil disk, one that is down, a layout that is another's. Conditions: what came in is of the sizes that the form allows. -/
namespace Go.Proofs
open Go Go.Vc Go.Crc
theorem scrub_Look.nil (x : L9) (w : World) :
    CallT [.one .slice, .one (.int .i64)] Try.prog F.scrub_Look [.pointer none, x.v] w fun r w' => r = (⟨none, 0, 0⟩, 2) ∧ Ext w w' := by
  refine scrub_Look.vc none x w _ ?_
  have b1 := LB.new w x
  have e1 := ext_alloc w (.cells x.vs.toArray T.api_Layout)
  dsimp only
  generalize w.alloc _ = w1 at *
  have e2 := e1.tr (ext_drew w1)
  have b2 := b1.ext (ext_drew w1)
  refine ⟨fun v => LB v w.heap.size x, b2, x, fun v hv => hv.all, disk_Disk_Size.vc none _ _ (cnd_pos rfl ⟨b2, CallT.mono (scrub_Part.nil x 0 0 _) ?_⟩)⟩
  rintro _ w3 ⟨rfl, e3⟩
  exact ⟨rfl, e2.tr e3⟩
/-! ### awake -/
def D104 : DK := { newD 256 with kept := (newD 256).kept.set 104 (flipS zeroSec 3), flips := 1 }
theorem new_get (i : Nat) : (newD 256).kept.getD i zeroSec = zeroSec := by
  rw [List.getD_eq_getElem?_getD]
  by_cases h : i < 256
  · rw [newD, List.getElem?_replicate, if_pos h]; rfl
  · rw [newD, List.getElem?_replicate, if_neg h]; rfl
theorem new_len : (newD 256).kept.length = 256 := by rw [newD]; exact List.length_replicate
theorem zero_val : zeroSec.1 = List.replicate 512 0 := rfl
theorem D104_show (i : Nat) : goodB (showD D104 i).1 = !(i == 104) := by
  have hs : showD D104 i = D104.kept.getD i zeroSec := rfl
  rw [hs]
  show goodB (((newD 256).kept.set 104 (flipS zeroSec 3)).getD i zeroSec).1 = _
  by_cases h : i = 104
  · subst h
    rw [List.getD_eq_getElem?_getD, List.getElem?_set_self (by rw [new_len]; decide), Option.getD_some, flip_turn zeroSec (by decide), zero_val, turned_zero (.inl ⟨3, by decide, rfl⟩)]
    rfl
  · rw [List.getD_eq_getElem?_getD, List.getElem?_set_ne (fun g => h g.symm), ← List.getD_eq_getElem?_getD, new_get, zero_val, good_zero]
    simp [h]
theorem D104_bads : badsD D104 0 256 = [(104, 7)] := by
  have h : ((List.range 256).filter fun i => !goodB (showD D104 (0 + i)).1) = (List.range 256).filter fun i => i == 104 := by
    apply List.filter_congr
    intro i _
    rw [Nat.zero_add, D104_show]; simp
  rw [badsD, h, show ((List.range 256).filter fun i => i == 104) = [104] by decide +kernel]
  rfl
theorem flip104 : ∃ D1, flipD (newD 256) 104 3 = (D1, 0) ∧ D1.down = false ∧ D1.kept.length = 256 ∧ D1.waits.length ≤ 2000000 ∧ badsD D1 0 256 = [(104, 7)] := by
  refine ⟨D104, ?_, rfl, ?_, ?_, D104_bads⟩
  · rw [flipD, if_neg (by rw [new_len]; decide), show (104 : Int).toNat = 104 from rfl, show (3 : Int).toNat = 3 from rfl, new_get]
    rfl
  · show ((newD 256).kept.set 104 _).length = 256
    rw [List.length_set, new_len]
  · exact Nat.zero_le _
/-- A new disk: what is known of it. -/
theorem new256 : ∃ D0, newD 256 = D0 ∧ D0.down = false ∧ D0.kept.length = 256 ∧ D0.waits = [] ∧ D0.flips = 0 ∧ D0.armed = 0 := ⟨_, rfl, rfl, new_len, rfl, rfl, rfl⟩
theorem disk_New256.spec (w : World) : CallT [.one .ptr, .one (.int .i64)] Try.prog F.disk_New [.int .i64 256] w fun r w' =>
    Ext w w' ∧ ∃ d k s, r.1 = some ⟨d, 0, none⟩ ∧ DkAt w' d k s (newD 256) ∧ ∀ b, fp d k s b → w.heap.size ≤ b := by
  refine CallT.mono (disk_New.spec 256 w) ?_
  rintro ⟨dp, de⟩ w2 ⟨e2, h2⟩
  refine ⟨e2, ?_⟩
  rcases h2 with ⟨h, _⟩ | ⟨_, d, k, s, hr, h3, h4⟩
  · omega
  · exact ⟨d, k, s, congrArg Prod.fst hr, h3, h4⟩
set_option maxRecDepth 100000 in
theorem awake29.spec (w : World) : CallT [.one .bool] Try.prog F.dunnagelaw29_awake [] w fun r w' => r = true ∧ Ext w w' := by
  refine dunnagelaw29_awake.vc w _ ?_
  obtain ⟨D1, hfl, hdn1, hk1, hw1, hbad1⟩ := flip104
  obtain ⟨D0, hD0, hdn0, hk0, hw0, hf0, ha0⟩ := new256
  refine CallT.mono (disk_New256.spec w) ?_
  rw [hD0] at hfl ⊢
  clear hD0
  rintro ⟨dp, de⟩ w2 ⟨e2, d, k0, s0, hdp, hd, hfar⟩
  dsimp only at hdp
  subst hdp
  refine CallT.mono (dunnageref05_Plan.spec 256 w2) ?_
  rintro ⟨y, ey⟩ w3 ⟨hy, e3⟩
  rw [plan256] at hy
  obtain ⟨rfl, rfl⟩ := Prod.mk.inj hy
  dsimp only
  generalize ha4 : w3.alloc _ = w4
  generalize hd4 : setCells w4 _ 0 _ = w5
  obtain ⟨c5, b5, e5, z5⟩ := bk_mk (T := T.api_Layout) (z := lay0.vs) (vs := LY.vs) ha4 hd4 rfl
  have hd5 := hd.ext (e3.tr e5)
  have e05 := (e2.tr e3).tr e5
  have hsz := e2.size
  have hsz3 := e3.size
  refine ⟨c5, fun _ v => DkAt v d k0 s0 D1 ∧ BK v w3.heap.size T.api_Layout LY.vs ∧ Ext w v, cnd_neg rfl (CallT.mono (disk_Flip.spec hd5 (by omega) 104 3) ?_), ?_⟩
  · rw [hfl]
    rintro _ w6 ⟨rfl, t6⟩
    refine cnd_neg rfl ⟨t6.at_, b5.upd t6.u (fun g => by have := hd.lt g; omega), e05.trans t6.u fun x hx h => by have := hfar x h; omega⟩
  rintro _ _ w6 ⟨h6, b6, e06⟩
  refine ⟨LY, b6.all, CallT.mono (scrub_Look.spec h6 hk1 hw1 LY) ?_⟩
  have hp : partR D1 LY 0 256 = ([(104, 7)], 0) := by
    rw [partR_ok hdn1 (by decide), show (0 : Int).toNat = 0 from rfl, show (256 : Int).toNat = 256 from rfl, hbad1]
  rw [hp]
  rintro ⟨r, re⟩ w7 ⟨hr, hre, e7⟩
  dsimp only at hr hre ⊢
  subst hre
  have hl := hr.len
  refine cnd_pos rfl (cnd_pos (by rw [hl]; rfl) ⟨by decide, by rw [hl]; decide, hr.rd.get (i := 0) (by decide) fun A hA => ⟨(104, 7), hr.rd.at_ (i := 0) rfl hA, by decide, e06.tr e7⟩⟩)
end Go.Proofs
/- dunnagelaw29.ran: a device behind items. Conditions: those of each contract. -/
namespace Go.Proofs
open Go Go.Vc Go.Crc
structure ItV where
  at_ : Int
  bit : Int
  turn : Bool
  kind : UInt8
  s : SV
  data : List UInt8
@[reducible] def encIt (x : ItV) : List Value := [.int .i64 x.at_, .int .i64 x.bit, .bool x.turn, .int .u8 x.kind.toNat, .slice x.s.a x.s.len x.s.cap]
theorem encIt_len (x : ItV) : (encIt x).length = 5 := rfl
/-- A slice that reads as these items. -/
structure RdIts (w : World) (s : SV) (l : List ItV) : Prop where
  rd : RdS encIt 5 w s l
  ok : ∀ x ∈ l, RdB w x.s x.data
theorem RdIts.ext {w w' : World} {s : SV} {l : List ItV} (h : RdIts w s l) (e : Ext w w') : RdIts w' s l := ⟨h.rd.ext e, fun x hx => (h.ok x hx).ext e⟩
def m256 (x : Int) : Nat := ((IntKind.u64.wrap x) % 256).toNat
def m4096 (x : Int) : Nat := ((IntKind.u64.wrap x) % 4096).toNat
theorem m256_eq (x : Int) : IntKind.i64.wrap ((IntKind.u64.wrap x).tmod 256) = (m256 x : Int) ∧ m256 x < 256 := by
  have h2 : 0 ≤ IntKind.u64.wrap x := by rw [u64_mod]; omega
  rw [Int.tmod_eq_emod_of_nonneg h2, i64_id (by omega) (by omega), m256]
  omega
theorem m4096_eq (x : Int) : IntKind.i64.wrap ((IntKind.u64.wrap x).tmod 4096) = (m4096 x : Int) ∧ m4096 x < 4096 := by
  have h2 : 0 ≤ IntKind.u64.wrap x := by rw [u64_mod]; omega
  rw [Int.tmod_eq_emod_of_nonneg h2, i64_id (by omega) (by omega), m4096]
  omega
def putI (D : DK) (i : Nat) (x : ItV) : DK := if (sealR x.kind i x.data).2 = 0 then (writeD D (m256 x.at_ : Int) (sealR x.kind i x.data).1).1 else D
def stepI (D : DK) (i : Nat) (x : ItV) : DK :=
  if x.turn = true then (flipD D (m256 x.at_ : Int) (m4096 x.bit : Int)).1
  else if x.bit.tmod 3 = 0 then (flushD (putI D i x)).1 else putI D i x
def ranI (l : List ItV) : Nat → DK
  | 0 => newD 256
  | i + 1 => match l[i]? with | some x => stepI (ranI l i) i x | none => ranI l i
/-- What is known of such a device. -/
structure OkD (D : DK) (i : Nat) : Prop where
  n : D.kept.length = 256
  w : D.waits.length ≤ i
  f : D.flips ≤ i
  down : D.down = false
  arm : D.armed = 0
theorem OkD.more {D : DK} {i j : Nat} (h : OkD D i) (hij : i ≤ j) : OkD D j := ⟨h.n, by have := h.w; omega, by have := h.f; omega, h.down, h.arm⟩
theorem OkD.write {D : DK} {i : Nat} (h : OkD D i) (a : Nat) (b : List UInt8) (ha : a < 256) : (writeD D (a : Int) b).1 = (if b.length = 512 then { D with waits := D.waits ++ [(a, secOf b)] } else D) ∧ OkD (writeD D (a : Int) b).1 (i + 1) := by
  have e : (writeD D (a : Int) b).1 = (if b.length = 512 then { D with waits := D.waits ++ [(a, secOf b)] } else D) := by
    rw [writeD, if_neg (by rw [h.down]; simp)]
    by_cases hb : b.length = 512
    · rw [if_neg (by rw [h.n]; omega), if_pos hb, cntD, hitD]
      simp [h.arm]
    · rw [if_pos (.inr hb), if_neg hb]
  refine ⟨e, ?_⟩
  rw [e]
  split
  · exact ⟨h.n, by have := h.w; simp; omega, by have := h.f; simp only; omega, h.down, h.arm⟩
  · exact h.more (by omega)
theorem OkD.flush {D : DK} {i : Nat} (h : OkD D i) : (flushD D).1 = { D with kept := applyW D.kept D.waits, waits := [] } ∧ OkD (flushD D).1 i := by
  have e : (flushD D).1 = { D with kept := applyW D.kept D.waits, waits := [] } := by
    rw [flushD, if_neg (by rw [h.down]; simp)]
    have : cntD D = (D, 0) := by rw [cntD, hitD]; simp [h.arm]
    rw [this]; simp
  refine ⟨e, ?_⟩
  rw [e]
  exact ⟨by rw [← h.n]; exact applyW_len _ _, by simp, h.f, h.down, h.arm⟩
theorem OkD.flip {D : DK} {i : Nat} (h : OkD D i) (a b : Nat) (ha : a < 256) (hb : b < 4096) : flipD D (a : Int) (b : Int) = ({ D with kept := D.kept.set a (flipS (D.kept.getD a zeroSec) b), flips := D.flips + 1 }, 0) ∧ OkD (flipD D (a : Int) (b : Int)).1 (i + 1) := by
  have e : flipD D (a : Int) (b : Int) = ({ D with kept := D.kept.set a (flipS (D.kept.getD a zeroSec) b), flips := D.flips + 1 }, 0) := by
    rw [flipD, if_neg (by rw [h.n]; omega)]
    rfl
  refine ⟨e, ?_⟩
  rw [e]
  exact ⟨by simp only [List.length_set]; exact h.n, by have := h.w; simp only; omega, by have := h.f; simp only; omega, h.down, h.arm⟩
theorem OkD.put {D : DK} {i : Nat} (h : OkD D i) (x : ItV) : OkD (putI D i x) (i + 1) := by
  unfold putI
  split
  · exact (h.write _ _ (m256_eq x.at_).2).2
  · exact h.more (by omega)
theorem OkD.step {D : DK} {i : Nat} (h : OkD D i) (x : ItV) : OkD (stepI D i x) (i + 1) := by
  unfold stepI
  split
  · exact (h.flip _ _ (m256_eq x.at_).2 (m4096_eq x.bit).2).2
  split
  · exact (h.put x).flush.2
  · exact h.put x
theorem ranI_ok (l : List ItV) : ∀ i, OkD (ranI l i) i
  | 0 => by
    obtain ⟨D0, hD0, h1, h2, h3, h4, h5⟩ := new256
    rw [ranI, hD0]
    exact ⟨h2, by rw [h3]; simp, by omega, h1, h5⟩
  | i + 1 => by
    rw [ranI]
    split
    · exact (ranI_ok l i).step _
    · exact (ranI_ok l i).more (by omega)
@[reducible] def zIt : List Value := [.int .i64 0, .int .i64 0, .bool false, .int .u8 0, .slice none 0 0]
set_option maxRecDepth 100000 in
set_option maxHeartbeats 1000000 in
theorem dunnagelaw29_ran.spec {w : World} {t : SV} {l : List ItV} (h : RdIts w t l) :
    CallT [.one .ptr] Try.prog F.dunnagelaw29_ran [.slice t.a t.len t.cap] w fun r w' => Ext w w' ∧ ∃ d k s, r = some ⟨d, 0, none⟩ ∧ DkAt w' d k s (ranI l (min l.length 60)) ∧ ∀ b, fp d k s b → w.heap.size ≤ b := by
  refine dunnagelaw29_ran.vc t w _ ?_
  have htl := h.rd.len
  refine CallT.mono (disk_New256.spec w) ?_
  rintro ⟨dp, de⟩ w2 ⟨e2, d, k0, s0, hdp, hd, hfar⟩
  dsimp only at hdp
  subst hdp
  refine ⟨fun n x v => ∃ (i : Nat) (k s : SV), x = (i : Int) ∧ i ≤ min l.length 60 ∧ n = min l.length 60 - i ∧ DkAt v d k s (ranI l i) ∧ (∀ b, fp d k s b → w.heap.size ≤ b) ∧ Ext w v, ⟨_, 0, k0, s0, rfl, by omega, rfl, hd, hfar, e2⟩, ?_⟩
  rintro n _ _ v1 ⟨i, k, s, rfl, hi, rfl, hD, hf, g1⟩
  have done : ¬ (i < l.length ∧ i < 60) → Ext w v1 ∧ ∃ d' k s, some (⟨d, 0, none⟩ : Addr) = some ⟨d', 0, none⟩ ∧ DkAt v1 d' k s (ranI l (min l.length 60)) ∧ ∀ b, fp d' k s b → w.heap.size ≤ b := fun hn => by
    have : i = min l.length 60 := by omega
    rw [← this]
    exact ⟨g1, d, k, s, rfl, hD, hf⟩
  refine ⟨fun _ v => v1 = v ∧ i < l.length ∧ i < 60, cnd_pos rfl (cnd_dec (fun h1 => cnd_dec (fun h2 => ⟨rfl, by omega, by omega⟩) fun h2 => done (by omega)) fun h1 => done (by omega)), ?_⟩
  rintro _ _ _ ⟨rfl, hil, hi60⟩
  have hx := List.getElem?_eq_getElem hil
  have hok := h.ok _ (List.getElem_mem hil)
  have hr : ranI l (i + 1) = stepI (ranI l i) i l[i] := by rw [ranI, hx]
  have hO := ranI_ok l i
  generalize hxi : l[i] = x at *
  have hit : Int.toNat (i : Int) = i := Int.toNat_natCast i
  have hw1 : IntKind.i64.wrap ((i : Int) + 1) = ((i + 1 : Nat) : Int) := by rw [i64_id (by omega) (by omega)]; simp
  refine ⟨by omega, by omega, (h.ext g1).rd.get hil fun A hA => ⟨(x.at_, x.bit, x.turn, (x.kind.toNat : Int), x.s), by rw [hit]; exact (h.ext g1).rd.at_ hx hA, ?_⟩⟩
  dsimp only
  generalize ha2 : v1.alloc _ = v2
  generalize hd3 : setCells v2 _ 0 _ = v3
  obtain ⟨c3, b3, e3, z3⟩ := bk_mk (T := T.dunnagelaw29_Item) (z := zIt) (vs := encIt x) ha2 hd3 rfl
  have g3 := g1.tr e3
  have hD3 := hD.ext e3
  have hsz := g1.size
  rw [hw1]
  have next : ∀ {v v' : World} {s' : SV} {D D' : DK}, Ext w v → DkAt v d k s D → DkTo v v' d k s s' D' → D' = ranI l (i + 1) → ∃ m, m < min l.length 60 - i ∧ ∃ (j : Nat) (k s : SV), ((i + 1 : Nat) : Int) = (j : Int) ∧ j ≤ min l.length 60 ∧ m = min l.length 60 - j ∧ DkAt v' d k s (ranI l j) ∧ (∀ b, fp d k s b → w.heap.size ≤ b) ∧ Ext w v' := fun {v v' s' D D'} ev hv t he => by
    subst he
    have hz := ev.size
    refine ⟨min l.length 60 - (i + 1), by omega, i + 1, k, s', rfl, by omega, rfl, t.at_, fun b hb => ?_, ev.trans t.u fun y hy hb => by have := hf y hb; omega⟩
    rcases hb with rfl | hb | hb
    · exact hf _ (.inl rfl)
    · exact hf _ (.inr (.inl hb))
    · rcases t.n b hb with g | g
      · exact hf _ (.inr (.inr g))
      · omega
  refine ⟨c3, x.turn, b3.get 2 rfl, cnd_intro (fun ht => ?_) (fun ht => ?_)⟩
  · obtain ⟨p1, p2⟩ := m256_eq x.at_
    obtain ⟨p3, p4⟩ := m4096_eq x.bit
    refine ⟨x.at_, b3.get 0 rfl, x.bit, b3.get 1 rfl, ?_⟩
    rw [p1, p3]
    refine CallT.mono (disk_Flip.spec hD3 (by have := hO.f; omega) (m256 x.at_ : Int) (m4096 x.bit : Int)) ?_
    rintro _ v4 ⟨_, t4⟩
    exact next g3 hD3 t4 (by rw [hr, stepI, if_pos ht])
  · have hw64 : IntKind.u64.wrap (i : Int) = ((i : Nat) : Int) := by rw [u64_mod]; omega
    rw [hw64]
    refine ⟨(x.kind.toNat : Int), b3.get 3 rfl, x.s, b3.get 4 rfl, CallT.mono (ref03_Seal.spec x.kind (by omega) (hok.ext g3)) ?_⟩
    rintro ⟨o, oe⟩ v4 ⟨ho, hoe, e4⟩
    dsimp only at ho hoe ⊢
    have g4 := g3.tr e4
    have hD4 := hD3.ext e4
    have b4 := b3.ext e4
    have hsz4 := g4.size
    have hb3lt := b3.lt
    have hwl : (ranI l i).waits.length ≤ 60 := by have := hO.w; omega
    refine ⟨fun _ v => ∃ s', DkTo v4 v d k s s' (putI (ranI l i) i x) ∧ BK v v1.heap.size T.dunnagelaw29_Item (encIt x), cnd_beq (fun h0 => ?_) (fun h0 => ?_), ?_⟩
    · obtain ⟨p1, p2⟩ := m256_eq x.at_
      refine ⟨x.at_, b4.get 0 rfl, ?_⟩
      rw [p1]
      refine CallT.mono (disk_Write.spec hD4 (by omega) ho.rd fun c hc h1 h2 => ?_) ?_
      · have := (ho.new c h1).1
        have := hD3.lt (.inr (.inr h2))
        omega
      rintro _ v5 ⟨_, s5, t5⟩
      refine ⟨s5, by rw [putI, if_pos (by rw [← hoe]; exact h0)]; exact t5, b4.upd t5.u fun g => ?_⟩
      have := hD.lt (show fp d k s v1.heap.size from g)
      omega
    · exact ⟨s, by rw [putI, if_neg (by rw [← hoe]; exact h0)]; exact hD4.to, b4⟩
    rintro _ _ v5 ⟨s5, t5, b5⟩
    refine ⟨x.bit, b5.get 1 rfl, cnd_beq (fun h0 => ?_) (fun h0 => ?_)⟩
    · refine CallT.mono (disk_Flush.spec t5.at_ (by have := (hO.put x).w; omega)) ?_
      rintro _ v6 ⟨_, s6, t6⟩
      refine next g4 hD4 (s' := s6) ⟨t6.at_, t5.u.trans t6.u fun y hy hb => ?_, fun b hb => ?_⟩ (by rw [hr, stepI, if_neg (by rw [ht]; simp), if_pos h0])
      · rcases hb with rfl | hb | hb
        · exact .inl rfl
        · exact .inr (.inl hb)
        · rcases t5.n y hb with g | g
          · exact .inr (.inr g)
          · omega
      · rcases t6.n b hb with g | g
        · exact t5.n b g
        · exact .inr (by have := t5.u.size; omega)
    · exact next g4 hD4 t5 (by rw [hr, stepI, if_neg (by rw [ht]; simp), if_neg h0])
end Go.Proofs
/- Slices of texts: what reads as so many texts. Conditions: those that each lemma names. -/
namespace Go.Proofs
open Go Go.Vc
@[reducible] def encSV (s : SV) : List Value := [.slice s.a s.len s.cap]
@[reducible] def encTx (p : SV × List UInt8) : List Value := encSV p.1
/-- A slice that reads as these texts. -/
def RdL (w : World) (s : SV) (l : List (List UInt8)) : Prop := ∃ ps : List (SV × List UInt8), RdS encTx 1 w s ps ∧ ps.map Prod.snd = l ∧ ∀ p ∈ ps, RdB w p.1 p.2
theorem RdL.len {w : World} {s : SV} {l : List (List UInt8)} (h : RdL w s l) : s.len = l.length := by
  obtain ⟨ps, h1, rfl, _⟩ := h
  rw [h1.len, List.length_map]
theorem RdL.ext {w w' : World} {s : SV} {l : List (List UInt8)} (h : RdL w s l) (hu : Ext w w') : RdL w' s l := by
  obtain ⟨ps, h1, h2, h3⟩ := h
  exact ⟨ps, h1.ext hu, h2, fun p hp => (h3 p hp).ext hu⟩
/-- An element of it. -/
theorem RdL.at_ {w : World} {s : SV} {l : List (List UInt8)} (h : RdL w s l) {i : Nat} {x : List UInt8} (hx : l[i]? = some x) {K : Addr → Prop}
    (hk : ∀ A t, s.a = some A → w.cell? (A.add (i * 1)) = some (.slice t.a t.len t.cap) → RdB w t x → K A) : onP s.a K := by
  obtain ⟨ps, h1, rfl, h3⟩ := h
  rw [List.getElem?_map] at hx
  cases hp : ps[i]? with
  | none => rw [hp] at hx; simp at hx
  | some p =>
    rw [hp] at hx
    obtain rfl := Option.some.inj hx
    refine h1.get (i := i) (List.getElem?_eq_some_iff.1 hp).1 fun A hA => hk A p.1 hA ?_ (h3 p (List.mem_of_getElem? hp))
    exact h1.fld hp hA (k := 0) rfl
theorem B8_flat (l : List UInt8) : (l.flatMap fun b => [Value.int .u8 b.toNat]) = B8 l := by
  induction l with
  | nil => rfl
  | cons x r ih => rw [List.flatMap_cons, ih]; rfl
theorem bytes_rel {w : World} {bd : TypeId → Nat → Prop} {bs : Nat → Prop} {e : TypeId} {a : Option Addr} {len cap : Nat} (h : DS.rel w bd bs (.slice e 1 (.int .u8)) [.slice a len cap]) :
    ∃ l : List UInt8, RdB w ⟨a, len, cap⟩ l ∧ len ≤ cap ∧ (cap = 0 ∨ bd e cap) := by
  have key : ∀ es : List Value, es.length = 1 → DS.rel w bd bs (.int .u8) es → ∃ x : UInt8, [Value.int .u8 x.toNat] = es ∧ True := by
    intro es hl hr
    obtain ⟨n, rfl, hw⟩ := hr
    have hb : IntKind.u8.min ≤ n ∧ n ≤ IntKind.u8.max := by simpa [Lit.wf] using hw
    have h0 : 0 ≤ n := hb.1
    have h1 : n ≤ 255 := hb.2
    refine ⟨UInt8.ofNat n.toNat, ?_, trivial⟩
    have : (UInt8.ofNat n.toNat).toNat = n.toNat := by simp; omega
    rw [this]; congr 2; omega
  obtain ⟨l, h1, h2, h3, _⟩ := DS.flat (enc := fun b : UInt8 => [Value.int .u8 b.toNat]) (fun _ => True) h (fun _ => rfl) (by decide) key
  refine ⟨l, ?_, h2, h3⟩
  have := h1.rd
  rwa [B8_flat] at this
end Go.Proofs
/- dunnagelaw29.ScrubLooks: which sectors are not as they may be, of all, and of some. Conditions: what came in is of the sizes that the form allows. -/
namespace Go.Proofs
open Go Go.Vc Go.Crc
theorem dunnagehelp_Plain_api_Bad.spec {w : World} {a b : SV} {xs ys : List Bd} (ha : RdS encBad 2 w a xs) (hb : RdS encBad 2 w b ys) (hl : xs.length < 2 ^ 62) :
    CallT [.one .bool] Try.prog F.dunnagehelp_Plain_api_Bad [.slice a.a a.len a.cap, .slice b.a b.len b.cap] w fun r w' => r = decide (xs = ys) ∧ Ext w w' := by
  refine dunnagehelp_Plain_api_Bad.vc a b w _ (dunnagehelp_Same_api_Bad.vc a b _ w _ ?_)
  have hal := ha.len
  have hbl := hb.len
  have no : ∀ {w' : World}, Ext w w' → xs ≠ ys → false = decide (xs = ys) ∧ Ext w w' := fun e h => ⟨by rw [eq_comm, decide_eq_false_iff_not]; exact h, e⟩
  refine cnd_bne (fun hne => no (Upd.refl _ _) fun h => hne (by rw [hal, hbl, h])) (fun he => ?_)
  have hxy : xs.length = ys.length := by omega
  refine ⟨fun n i w' => ∃ k : Nat, i = k ∧ k ≤ xs.length ∧ n = xs.length - k ∧ Ext w w' ∧ xs.take k = ys.take k, ⟨_, 0, rfl, by omega, rfl, Upd.refl _ _, rfl⟩, ?_⟩
  rintro n i j w' ⟨k, rfl, hk, rfl, hu, hq⟩
  refine cnd_dec (fun hlt => ?_) (fun hge => ?_)
  · have hkx : k < xs.length := by omega
    have hky : k < ys.length := by omega
    have e : Ext w w'.drew := hu.drew
    generalize w'.drew = w2 at *
    have hit : Int.toNat (k : Int) = k := Int.toNat_natCast k
    refine ⟨by omega, by omega, (ha.ext e).get hkx fun A hA => ⟨xs[k], by rw [hit]; exact (ha.ext e).at_ (List.getElem?_eq_getElem hkx) hA, by omega, by omega, (hb.ext e).get hky fun B hB => ⟨ys[k], by rw [hit]; exact (hb.ext e).at_ (List.getElem?_eq_getElem hky) hB, ?_⟩⟩⟩
    refine dunnagehelp_Plain_api_Bad_1.vc xs[k] ys[k] w2 _ ?_
    generalize hc : w2.alloc _ = w3
    obtain ⟨b3, e3, z3⟩ := bk_new (T := T.api_Bad) (vs := encBad xs[k]) hc
    dsimp only
    generalize hc2 : w3.alloc _ = w4
    obtain ⟨b4, e4, z4⟩ := bk_new (T := T.api_Bad) (vs := encBad ys[k]) hc2
    have eAll := (e.tr e3).tr e4
    refine ⟨xs[k], (b3.ext e4).all, ys[k], b4.all, cnd_not (fun hf => no eAll fun h => ?_) (fun ht => ?_)⟩
    · have h2 : xs[k] = ys[k] := by simp only [h]
      rw [h2] at hf
      simp at hf
    · have hxe : xs[k] = ys[k] := by
        simp only [Bool.and_eq_true, beq_iff_eq, and_true] at ht
        exact Prod.ext ht.1 ht.2
      refine ⟨_, ?_, k + 1, by rw [i64_id] <;> omega, by omega, rfl, eAll, ?_⟩
      · omega
      · rw [List.take_add_one, List.take_add_one, hq, List.getElem?_eq_getElem hkx, List.getElem?_eq_getElem hky, hxe]
  · have hk2 : k = xs.length := by omega
    subst hk2
    rw [List.take_of_length_le (Nat.le_refl _), List.take_of_length_le (by omega)] at hq
    exact ⟨by simp [hq], hu⟩
/-- One more is put behind. -/
theorem app_bad {w0 w : World} {s : SV} {l : List Bd} {x : Bd} {K : SV → World → Prop} {ty : TypeId} (he : Ext w0 w) (hs : OwnS encBad 2 T.api_Bad w w0.heap.size s l) (hl : l.length ≤ 1000000)
    (hk : ∀ s' w', OwnS encBad 2 T.api_Bad w' w0.heap.size s' (l ++ [x]) → Ext w0 w' → Upd s.blk w w' → (∀ c, s'.blk c → s.blk c ∨ w.heap.size ≤ c) → K s' w') :
    appV Try.prog [T.sl_api_Bad, T.sl_api_Bad] ty [.slice s.a s.len s.cap, .slice (some ⟨w.heap.size, 0, none⟩) 1 1] (w.alloc (.cells (encBad x).toArray T.api_Bad)) K := by
  have hs' := hs.ext (ext_alloc w (.cells (encBad x).toArray T.api_Bad))
  have hsrc := (Own.new w T.api_Bad 2 1 (encBad x) rfl).rd.src (P := Try.prog) (by intro v hv; simp [encBad] at hv; rcases hv with rfl | rfl <;> rfl)
  have hz : (w.alloc (.cells (encBad x).toArray T.api_Bad)).heap.size = w.heap.size + 1 := by simp
  have hel := (he.alloc (.cells (encBad x).toArray T.api_Bad))
  have hel2 := ext_alloc w (.cells (encBad x).toArray T.api_Bad)
  have hsz := he.size
  have hlen := hs.len
  generalize w.alloc (.cells (encBad x).toArray T.api_Bad) = w1 at *
  refine appV_ownL appBad hs'.own hsrc (by omega) (fun hlt => Nat.le_trans (Nat.mul_le_mul_right _ (nextcap_le hlt)) (by show (2 * (s.len + 1) + 192) * 16 ≤ 281474976710656; omega)) ?_
  intro s' w2 ho hl2 u2 _ hloc
  refine hk s' w2 ⟨by rw [List.flatMap_append]; simpa using ho, encBad_len, by decide⟩ (hel.own hs'.own (Nat.le_refl _) u2) ((hel2.to s.blk).tr u2) ?_
  rintro c ⟨A', hA', rfl⟩
  rcases hloc with hl | hl
  · exact .inl ⟨A', by rw [← hl]; exact hA', rfl⟩
  · rw [hl] at hA'; obtain rfl := Option.some.inj hA'; exact .inr (by show w.heap.size ≤ w1.heap.size; omega)
/-! ### items that come in -/
theorem items_rel {w : World} {bd : TypeId → Nat → Prop} {bs : Nat → Prop} {e e' : TypeId} {a : Option Addr} {len cap : Nat}
    (h : DS.rel w bd bs (.slice e 5 (.struct (.cons 0 1 (.int .i64) (.cons 1 1 (.int .i64) (.cons 2 1 .bool (.cons 3 1 (.int .u8) (.cons 4 1 (.slice e' 1 (.int .u8)) .nil))))))) [.slice a len cap]) :
    ∃ l : List ItV, RdIts w ⟨a, len, cap⟩ l := by
  have key : ∀ es : List Value, es.length = 5 → DS.rel w bd bs (.struct (.cons 0 1 (.int .i64) (.cons 1 1 (.int .i64) (.cons 2 1 .bool (.cons 3 1 (.int .u8) (.cons 4 1 (.slice e' 1 (.int .u8)) .nil)))))) es →
      ∃ o : ItV, encIt o = es ∧ RdB w o.s o.data := by
    intro es hl hr
    match es, hl with
    | [v0, v1, v2, v3, v4], _ =>
      obtain ⟨⟨n0, h0, w0⟩, ⟨n1, h1, w1⟩, ⟨b2, h2⟩, ⟨n3, h3, w3⟩, h4, _⟩ := hr
      obtain ⟨a5, l5, c5, h50, _⟩ := id h4
      obtain ⟨d, hk, _⟩ := bytes_rel (h50 ▸ h4)
      have hb : IntKind.u8.min ≤ n3 ∧ n3 ≤ IntKind.u8.max := by simpa [Lit.wf] using w3
      have g0 : 0 ≤ n3 := hb.1
      have g1 : n3 ≤ 255 := hb.2
      simp only [List.drop_zero, List.drop_succ_cons, List.take_succ_cons, List.take_zero, List.cons.injEq, and_true] at h0 h1 h2 h3 h50
      subst h0 h1 h2 h3 h50
      refine ⟨⟨n0, n1, b2, UInt8.ofNat n3.toNat, ⟨a5, l5, c5⟩, d⟩, ?_, hk⟩
      have : (((UInt8.ofNat n3.toNat).toNat : Nat) : Int) = n3 := by simp; omega
      simp only [encIt, this]
  obtain ⟨l, h1, h2, h3, h4⟩ := DS.flat (enc := encIt) (fun x => RdB w x.s x.data) h (fun _ => rfl) (by decide) key
  exact ⟨l, ⟨h1, h4⟩⟩
end Go.Proofs
/- dunnageref02.Turn, and what the statements of chapter 02 hold bytes and their sums against. Conditions: those of each contract. -/
namespace Go.Proofs
open Go Go.Vc Go.Crc
def I64 (l : List Int) : List Value := l.map (Value.int .i64)
abbrev RdI (w : World) (s : SV) (l : List Int) : Prop := Rd w 1 s (I64 l)
theorem _root_.Go.Vc.Rd.lenI {w : World} {s : SV} {l : List Int} (h : RdI w s l) : s.len = l.length := by have := h.len; simp [I64] at this; exact this.symm
theorem _root_.Go.Vc.Rd.cellI {w : World} {s : SV} {l : List Int} (h : RdI w s l) {i : Nat} {b : Int} (hb : l[i]? = some b) {A : Addr} (hA : s.a = some A) : w.cell? (A.add (i * 1)) = some (.int .i64 b) := by
  rw [Nat.mul_one]; exact h.at_ A hA i _ (by simp [I64, hb])
theorem SV.getI {w : World} {s : SV} {l : List Int} (h : RdI w s l) {i : Nat} (hi : i < l.length) {K : Addr → Prop} (hk : ∀ A, s.a = some A → K A) : onP s.a K := by
  cases hA : s.a with
  | none => have := h.nil hA; rw [h.lenI] at this; omega
  | some A => exact hk A hA
end Go.Proofs
/- dunnagelaw29.ScrubTurned: whatever was written, nothing is told, if no bit is turned; with one to three turned bits of some sectors just these are told. Conditions: what came in is of the sizes that the form allows. -/
namespace Go.Proofs
open Go Go.Vc Go.Crc
/-! ### the plain law -/
def Fine (y : Sec) : Prop := y.1 = List.replicate 512 0 ∨ ∃ (k : UInt8) (t : Nat) (p : List UInt8), knownK k = true ∧ p.length ≤ 496 ∧ t < 2 ^ 64 ∧ y.1 = sealB k t p
theorem Fine.good {y : Sec} (h : Fine y) : goodB y.1 = true := by
  rcases h with h | ⟨k, t, p, h1, h2, h3, h4⟩
  · rw [h]; exact good_zero
  · rw [h4]; exact good_seal h1 h2 h3
theorem seal_first {k : UInt8} {t : Nat} {p : List UInt8} : (sealB k t p).getD 0 0 = k := by rw [sealB_eq]; rfl
theorem Fine.turned {y : Sec} (h : Fine y) {ks : List Int} (hb : Bits3 4096 ks) : goodB (turns y.1 ks) = false := by
  rcases h with h | ⟨k, t, p, h1, h2, h3, h4⟩
  · rw [h]; exact turned_zero hb
  · rw [h4, goodB, turned_bad (sealB_len h2) (by rw [seal_first]; exact h1) (right_behind _) hb]; rfl
theorem fine_zero : Fine zeroSec := .inl rfl
structure Gd (D : DK) : Prop where
  kept : ∀ y ∈ D.kept, Fine y
  wait : ∀ p ∈ D.waits, Fine p.2
theorem applyW_fine : ∀ {ws : List Wr} {K : List Sec}, (∀ y ∈ K, Fine y) → (∀ p ∈ ws, Fine p.2) → ∀ y ∈ applyW K ws, Fine y
  | [], K, hK, _ => hK
  | p :: r, K, hK, hw => by
    have h1 : ∀ y ∈ K.set p.1 p.2, Fine y := fun y hy => by
      rcases List.mem_or_eq_of_mem_set hy with h | rfl
      · exact hK y h
      · exact hw p (by simp)
    exact applyW_fine (ws := r) h1 fun q hq => hw q (by simp [hq])
theorem Gd.step {D : DK} {i : Nat} (hO : OkD D i) (h : Gd D) (x : ItV) (ht : x.turn = false) (hi : i < 2 ^ 64) : Gd (stepI D i x) := by
  have hp : Gd (putI D i x) := by
    unfold putI
    split
    · rename_i h0
      rw [(hO.write _ _ (m256_eq x.at_).2).1]
      split
      · rename_i h512
        refine ⟨h.kept, fun p hp => ?_⟩
        rcases List.mem_append.1 hp with hp | hp
        · exact h.wait p hp
        · obtain rfl := by simpa using hp
          refine .inr ⟨x.kind, i, x.data, ?_⟩
          rw [secOf_val h512]
          unfold sealR at h0 ⊢
          split at h0
          · simp at h0
          split at h0
          · simp at h0
          · rename_i h1 h2
            refine ⟨by simpa using h1, by omega, hi, ?_⟩
            rw [if_neg h1, if_neg h2]
      · exact h
    · exact h
  unfold stepI
  rw [if_neg (by rw [ht]; simp)]
  split
  · rw [((hO.put x).flush).1]
    exact ⟨applyW_fine hp.kept hp.wait, by simp⟩
  · exact hp
theorem ranI_gd {l : List ItV} (hl : ∀ x ∈ l, x.turn = false) : ∀ i, i < 2 ^ 64 → Gd (ranI l i)
  | 0, _ => by
    rw [ranI]
    exact ⟨fun y hy => by rw [newD] at hy; rw [(List.mem_replicate.1 hy).2]; exact fine_zero, fun p hp => by rw [show (newD 256).waits = [] from rfl] at hp; simp at hp⟩
  | i + 1, hi => by
    rw [ranI]
    split
    · rename_i x hx
      exact (ranI_gd hl i (by omega)).step (ranI_ok l i) x (hl x (List.mem_of_getElem? hx)) (by omega)
    · exact ranI_gd hl i (by omega)
theorem bads_none {D : DK} (h : Gd D) (hw : D.waits = []) : badsD D 0 256 = [] := by
  unfold badsD
  rw [List.map_eq_nil_iff, List.filter_eq_nil_iff]
  intro i _
  have hs : showD D (0 + i) = D.kept.getD (0 + i) zeroSec := by rw [showD, hw]; rfl
  have hf : Fine (D.kept.getD (0 + i) zeroSec) := by
    rw [List.getD_eq_getElem?_getD]
    by_cases hi : 0 + i < D.kept.length
    · rw [List.getElem?_eq_getElem hi]; exact h.kept _ (List.getElem_mem hi)
    · rw [List.getElem?_eq_none (by omega)]; exact fine_zero
  rw [hs, hf.good]; decide
/-- A device of which some sectors were turned. -/
structure Hit (D D0 : DK) (ks : List Int) (hits : List Bool) : Prop where
  n : D.kept.length = 256
  w : D.waits = []
  down : D.down = false
  at_ : ∀ i, i < 256 → (D.kept.getD i zeroSec).1 = if hits.getD i false = true then turns (D0.kept.getD i zeroSec).1 ks else (D0.kept.getD i zeroSec).1
def hitB (hits : List Bool) : List Bd := ((List.range 256).filter fun i => hits.getD i false).map badAt
theorem Hit.bads {D D0 : DK} {ks : List Int} {hits : List Bool} (h : Hit D D0 ks hits) (h0 : Gd D0) (hb : Bits3 4096 ks) : badsD D 0 256 = hitB hits := by
  unfold badsD hitB
  have hf : ∀ i, Fine (D0.kept.getD i zeroSec) := fun i => by
    rw [List.getD_eq_getElem?_getD]
    by_cases hi : i < D0.kept.length
    · rw [List.getElem?_eq_getElem hi]; exact h0.kept _ (List.getElem_mem hi)
    · rw [List.getElem?_eq_none (by omega)]; exact fine_zero
  have hc : (List.range 256).filter (fun i => !goodB (showD D (0 + i)).1) = (List.range 256).filter fun i => hits.getD i false := by
    apply List.filter_congr
    intro i hi
    have hi' := List.mem_range.1 hi
    have hs : showD D (0 + i) = D.kept.getD i zeroSec := by rw [showD, h.w, Nat.zero_add]; rfl
    rw [hs, h.at_ i hi']
    cases hh : hits.getD i false with
    | true => rw [if_pos rfl, (hf i).turned hb]; rfl
    | false => rw [if_neg (by simp), (hf i).good]; rfl
  rw [hc]
  simp only [Nat.zero_add]
/-! ### the walk -/
abbrev encBo : Bool → List Value := fun b => [Value.bool b]
theorem encBo_len (b : Bool) : (encBo b).length = 1 := rfl
theorem appIt : AppT Try.prog [T.sl_dunnagelaw29_Item, T.sl_dunnagelaw29_Item] T.dunnagelaw29_Item 5 48 zIt :=
  ⟨⟨T.sl_dunnagelaw29_Item, rfl, by kernel_rfl⟩, ⟨T.sl_dunnagelaw29_Item, _, rfl, by kernel_rfl, .inr ⟨T.dunnagelaw29_Item, rfl⟩⟩, by kernel_rfl, by kernel_rfl, by decide, by kernel_rfl, rfl, by decide⟩
def calmOf (l : List ItV) : List ItV := l.filter fun x => !x.turn
theorem bo_reps : ∀ n : Nat, (List.replicate n false).flatMap encBo = List.replicate n (Value.bool false)
  | 0 => rfl
  | n + 1 => by rw [List.replicate_succ, List.flatMap_cons, bo_reps n]; rfl
theorem mod4096' (x : Int) : ∃ n : Nat, IntKind.i64.wrap ((IntKind.u64.wrap x).tmod (IntKind.u64.wrap 4096)) = n ∧ n < 4096 := by
  have h1 : IntKind.u64.wrap 4096 = 4096 := by decide
  have h2 : 0 ≤ IntKind.u64.wrap x := by rw [u64_mod]; omega
  rw [h1, Int.tmod_eq_emod_of_nonneg h2, i64_id (by omega) (by omega)]
  exact ⟨(IntKind.u64.wrap x % 4096).toNat, by omega, by omega⟩
theorem nextcap_one (c : Nat) : Builtin.nextslicecap (c + 1) c ≤ c + c / 4 + 513 := by
  unfold Builtin.nextslicecap
  split
  · omega
  · split
    · omega
    · unfold Builtin.growBy
      rw [if_neg (by omega)]
      unfold Builtin.growBy
      rw [if_pos (by omega)]
      omega
/-- One more item is put behind. -/
theorem app_it {w0 w : World} {s : SV} {l : List ItV} {x : ItV} {K : SV → World → Prop} {ty : TypeId} (he : Ext w0 w) (hs : OwnS encIt 5 T.dunnagelaw29_Item w w0.heap.size s l) (hl : l.length ≤ 3000000000000)
    (hk : ∀ s' w', OwnS encIt 5 T.dunnagelaw29_Item w' w0.heap.size s' (l ++ [x]) → Ext w0 w' → K s' w') :
    appV Try.prog [T.sl_dunnagelaw29_Item, T.sl_dunnagelaw29_Item] ty [.slice s.a s.len s.cap, .slice (some ⟨w.heap.size, 0, none⟩) 1 1] (w.alloc (.cells (encIt x).toArray T.dunnagelaw29_Item)) K := by
  have hs' := hs.ext (ext_alloc w (.cells (encIt x).toArray T.dunnagelaw29_Item))
  have hsrc := (Own.new w T.dunnagelaw29_Item 5 1 (encIt x) rfl).rd.src (P := Try.prog) (by intro v hv; simp [encIt] at hv; rcases hv with rfl | rfl | rfl | rfl | rfl <;> rfl)
  have hz : (w.alloc (.cells (encIt x).toArray T.dunnagelaw29_Item)).heap.size = w.heap.size + 1 := by simp
  have hel := (he.alloc (.cells (encIt x).toArray T.dunnagelaw29_Item))
  have hsz := he.size
  have hlen := hs.len
  have hcl := hs.own.cap_le
  generalize w.alloc (.cells (encIt x).toArray T.dunnagelaw29_Item) = w1 at *
  refine appV_ownL appIt hs'.own hsrc (by omega) (fun hlt => ?_) ?_
  · have hce : s.cap = s.len := by have h2 : s.cap < s.len + 1 := hlt; omega
    show Builtin.nextslicecap (s.len + 1) s.cap * 48 ≤ 281474976710656
    rw [hce]
    have := nextcap_one s.len
    omega
  intro s' w2 ho hl2 u2 _ _
  exact hk s' w2 ⟨by rw [List.flatMap_append]; simpa using ho, encIt_len, by decide⟩ (hel.own hs'.own (Nat.le_refl _) u2)
theorem calm_succ {l : List ItV} {i : Nat} {x : ItV} (hx : l[i]? = some x) : calmOf (l.take (i + 1)) = calmOf (l.take i) ++ (if x.turn = true then [] else [x]) := by
  rw [List.take_add_one, hx, calmOf, List.filter_append, calmOf]
  congr 1
  cases h : x.turn <;> simp [h]
theorem calm_mem {l : List ItV} {x : ItV} (h : x ∈ calmOf l) : x ∈ l ∧ x.turn = false := by
  have := List.mem_filter.1 h
  exact ⟨this.1, by simpa using this.2⟩
theorem bo_set {w : World} {s : SV} {l : List Bool} {B : Nat} (h : OwnS encBo 1 T.bool w B s l) {i : Nat} (hi : i < l.length) {A : Addr} (hA : s.a = some A) (v : Bool) :
    (w.cell? (A.add (i * 1))).isSome = true ∧ w.frozen? (A.add (i * 1)) = false ∧ OwnS encBo 1 T.bool (w.setCell (A.add (i * 1)) (.bool v)) B s (l.set i v) ∧ Upd s.blk w (w.setCell (A.add (i * 1)) (.bool v)) := by
  have h1 := h.setf (i := i) (x := l[i]) (List.getElem?_eq_getElem hi) hA (k := 0) (v := .bool v) (y := v) (by decide) rfl
  have hz : (A.add (i * 1)).add 0 = A.add (i * 1) := by cases A; simp [Addr.add]
  rw [hz] at h1
  exact ⟨h1.1, h1.2.1, h1.2.2.1, h1.2.2.2.2⟩
theorem turns_snoc (l : List UInt8) (ks : List Int) (k : Int) : turns l (ks ++ [k]) = turn1 (turns l ks) k := by simp [turns, List.foldl_append]
set_option maxRecDepth 100000 in
set_option maxHeartbeats 4000000 in
theorem dunnagelaw29_ScrubTurned.spec {w : World} {t u : SV} {l : List ItV} {tu : List Int} {n1 n2 n3 : Int} (h : RdIts w t l) (hlc : l.length ≤ 3000000000000) (hu : RdI w u tu) :
    CallT [.one .bool] Try.prog F.dunnagelaw29_ScrubTurned [.slice t.a t.len t.cap, .slice u.a u.len u.cap, .int .i64 n1, .int .i64 n2, .int .i64 n3] w fun r w' => r = true ∧ Ext w w' := by
  refine dunnagelaw29_ScrubTurned.vc t u n1 n2 n3 w _ ?_
  have htl := h.rd.len
  have hul := hu.lenI
  have hitn : ∀ i : Nat, Int.toNat (i : Int) = i := fun i => Int.toNat_natCast i
  have hinc : ∀ i : Nat, i ≤ 3000000000000 → IntKind.i64.wrap ((i : Int) + 1) = ((i + 1 : Nat) : Int) := fun i hi => by rw [i64_id (by omega) (by omega)]; simp
  refine ⟨fun m x v => ∃ (i : Nat) (p : SV), x = (p, (i : Int)) ∧ i ≤ l.length ∧ m = l.length - i ∧ OwnS encIt 5 T.dunnagelaw29_Item v w.heap.size p (calmOf (l.take i)) ∧ Ext w v, ⟨_, 0, ⟨none, 0, 0⟩, rfl, by omega, rfl, OwnS.nil encIt_len (by decide) _ _ _, Upd.refl _ _⟩, ?_⟩
  rintro m _ _ v1 ⟨i, p, rfl, hi, rfl, hp, g1⟩
  dsimp only
  refine cnd_dec (fun hlt => ?_) (fun hge => ?_)
  · have hil : i < l.length := by omega
    have hx := List.getElem?_eq_getElem hil
    have hs := calm_succ hx
    generalize l[i] = x at hx hs
    have hcl : (calmOf (l.take i)).length ≤ l.length := Nat.le_trans (List.length_filter_le _ _) (by rw [List.length_take]; omega)
    have hpl := hp.len
    rw [hinc i (by omega)]
    refine ⟨by omega, by omega, (h.ext g1).rd.get hil fun A hA => ⟨x.turn, by rw [hitn]; exact (h.ext g1).rd.fld hx hA (k := 2) rfl, cnd_not (fun ht => ?_) (fun ht => ?_)⟩⟩
    · refine ⟨by omega, by omega, (h.ext g1).rd.get hil fun A hA => ⟨(x.at_, x.bit, x.turn, (x.kind.toNat : Int), x.s), by rw [hitn]; exact (h.ext g1).rd.at_ hx hA, ?_⟩⟩
      refine app_it (x := x) g1 hp (by omega) ?_
      intro s' v2 ho g2
      refine ⟨l.length - (i + 1), by omega, i + 1, s', rfl, by omega, rfl, ?_, g2⟩
      rw [hs, if_neg (by rw [ht]; simp)]; exact ho
    · refine ⟨l.length - (i + 1), by omega, i + 1, p, rfl, by omega, rfl, ?_, g1⟩
      rw [hs, if_pos ht, List.append_nil]; exact hp
  have hi' : i = l.length := by omega
  subst hi'
  rw [List.take_length] at hp
  have hits : RdIts v1 p (calmOf l) := ⟨hp.rd, fun x hx => (h.ok x (calm_mem hx).1).ext g1⟩
  refine CallT.mono (dunnagelaw29_ran.spec hits) ?_
  rintro _ v2 ⟨g2, d, k, s, rfl, hD, hfar⟩
  have hO := ranI_ok (calmOf l) (min (calmOf l).length 60)
  have hG := ranI_gd (l := calmOf l) (fun x hx => (calm_mem hx).2) (min (calmOf l).length 60) (by omega)
  have hO60 : OkD (ranI (calmOf l) (min (calmOf l).length 60)) 60 := hO.more (by omega)
  generalize ranI (calmOf l) (min (calmOf l).length 60) = D at *
  clear hO
  have g02 := g1.tr g2
  refine CallT.mono (dunnageref05_Plan.spec 256 v2) ?_
  rintro ⟨y, ey⟩ v3 ⟨hy, g3⟩
  rw [plan256] at hy
  obtain ⟨rfl, rfl⟩ := Prod.mk.inj hy
  dsimp only
  generalize ha4 : v3.alloc _ = v4
  generalize hd4 : setCells v4 _ 0 _ = v5
  obtain ⟨c5, b5, g5, z5⟩ := bk_mk (T := T.api_Layout) (z := lay0.vs) (vs := LY.vs) ha4 hd4 rfl
  have hD5 := (hD.ext g3).ext g5
  have g05 := (g02.tr g3).tr g5
  have hsz1 := g1.size
  have hsz2 := g2.size
  have hsz3 := g3.size
  have hfl := hO60.flush
  refine ⟨c5, fun _ v => ∃ s', DkAt v d k s' (flushD D).1 ∧ (∀ b, fp d k s' b → v1.heap.size ≤ b ∧ b ≠ v3.heap.size) ∧ BK v v3.heap.size T.api_Layout LY.vs ∧ Ext w v, CallT.mono (awake29.spec v5) ?_, ?_⟩
  · rintro _ v6 ⟨rfl, g6⟩
    refine cnd_neg rfl (cnd_neg rfl (CallT.mono (disk_Flush.spec (hD5.ext g6) (by have := hO60.w; omega)) ?_))
    rintro _ v7 ⟨hr, s7, t7⟩
    have hr0 : (flushD D).2 = 0 := by
      rw [flushD, if_neg (by rw [hO60.down]; simp)]
      have : cntD D = (D, 0) := by rw [cntD, hitD]; simp [hO60.arm]
      rw [this]; rfl
    rw [hr0] at hr
    subst hr
    have hz6 := g6.size
    refine cnd_neg rfl ⟨s7, t7.at_, fun b hb => ?_, (b5.ext g6).upd t7.u (fun hb => ?_), (g05.tr g6).trans t7.u fun x hx hb => ?_⟩
    · rcases hb with rfl | hb | hb
      · have := hfar _ (.inl rfl); have := hD.lt (.inl rfl); omega
      · have := hfar _ (.inr (.inl hb)); have := hD.lt (.inr (.inl hb)); omega
      · rcases t7.n b hb with g | g
        · have := hfar _ (.inr (.inr g)); have := hD.lt (.inr (.inr g)); omega
        · omega
    · have := hD.lt hb; omega
    · have := hfar x hb; omega
  rintro _ _ v6 ⟨s6, hD6, hf6, b6, g06⟩
  have hG6 : Gd (flushD D).1 := by rw [hfl.1]; exact ⟨applyW_fine hG.kept hG.wait, by simp⟩
  have hw6 : (flushD D).1.waits = [] := by rw [hfl.1]
  have hO6 := hfl.2
  generalize (flushD D).1 = D0 at *
  have hdn := hO6.down
  refine ⟨LY, b6.all, CallT.mono (scrub_Look.spec hD6 hO6.n (by rw [hw6]; simp) LY) ?_⟩
  rw [partR_ok hdn (by decide), show (0 : Int).toNat = 0 from rfl, show (256 : Int).toNat = 256 from rfl, bads_none hG6 hw6]
  rintro ⟨a, ae⟩ v7 ⟨ha, hae, g7⟩
  dsimp only at ha hae ⊢
  subst hae
  have hal := ha.len
  refine ⟨fun _ v => v7 = v, cnd_neg rfl (cnd_neg (by rw [hal]; rfl) rfl), ?_⟩
  rintro _ _ _ rfl
  obtain ⟨i, hi, hi4⟩ := mod4096' n1
  obtain ⟨j, hj, hj4⟩ := mod4096' n2
  obtain ⟨q, hq, hq4⟩ := mod4096' n3
  rw [hi, hj, hq]
  have g07 := (g06.tr g7).tr (ext_drew v7)
  have hD7 := (hD6.ext g7).ext (ext_drew v7)
  have b7 := (b6.ext g7).ext (ext_drew v7)
  generalize v7.drew = v8 at *
  generalize ha9 : v8.alloc _ = v9
  obtain ⟨b9, g9, z9⟩ := bk_new (T := T.int) (vs := [.int .i64 i, .int .i64 j, .int .i64 q]) ha9
  have g9d := g9.tr (ext_drew v9)
  have b9d := b9.ext (ext_drew v9)
  simp only [subA_zero]
  generalize v9.drew = w0 at *
  have g00 := g07.tr g9d
  have hD10 := hD7.ext g9d
  have b10 := b7.ext g9d
  have one : Bits3 4096 [(i : Int)] := .inl ⟨i, hi4, rfl⟩
  have rd1 : RdI w0 ⟨some ⟨v8.heap.size, 0, none⟩, 1, 3⟩ [(i : Int)] := ⟨rfl, fun h => by simp at h, fun A hA => by
    obtain rfl := Option.some.inj hA
    exact b9d.all.take 1⟩
  have rd3 : RdI w0 ⟨some ⟨v8.heap.size, 0, none⟩, 3, 3⟩ [(i : Int), (j : Int), (q : Int)] := ⟨rfl, fun h => by simp at h, fun A hA => by
    obtain rfl := Option.some.inj hA
    exact b9d.all⟩
  refine ⟨by decide, by decide, by decide, fun z v => w0 = v ∧ ∃ ks, RdI w0 z ks ∧ Bits3 4096 ks ∧ ∀ b, z.blk b → b = v8.heap.size, ?_, ?_⟩
  · have hbk : ∀ n c, ∀ b, SV.blk (⟨some ⟨v8.heap.size, 0, none⟩, n, c⟩ : SV) b → b = v8.heap.size := fun n c b hb => by
      obtain ⟨A, hA, rfl⟩ := hb
      obtain rfl := Option.some.inj hA
      rfl
    refine ⟨by decide, by decide, (i : Int), b9d.get 0 rfl, by decide, by decide, (j : Int), b9d.get 1 rfl, cnd_beq (fun h => ⟨by decide, by decide, rfl, _, rd1, one, hbk _ _⟩) fun h1 => ?_⟩
    refine ⟨by decide, by decide, (j : Int), b9d.get 1 rfl, by decide, by decide, (q : Int), b9d.get 2 rfl, cnd_beq (fun h => ⟨by decide, by decide, rfl, _, rd1, one, hbk _ _⟩) fun h2 => ?_⟩
    refine ⟨by decide, by decide, (i : Int), b9d.get 0 rfl, by decide, by decide, (q : Int), b9d.get 2 rfl, cnd_beq (fun h => ⟨by decide, by decide, rfl, _, rd1, one, hbk _ _⟩) fun h3 => ?_⟩
    exact ⟨rfl, _, rd3, .inr ⟨i, j, q, ⟨hi4, hj4, hq4⟩, ⟨by omega, by omega, by omega⟩, rfl⟩, hbk _ _⟩
  rintro z _ _ ⟨rfl, ks, hks, hb, hzb⟩
  have hkl := hks.lenI
  have hk3 : ks.length ≤ 3 := by rcases hb with ⟨_, _, rfl⟩ | ⟨_, _, _, _, _, rfl⟩ <;> simp
  have hkr : ∀ x ∈ ks, ∃ n : Nat, x = n ∧ n < 4096 := by
    rcases hb with ⟨i, hi, rfl⟩ | ⟨i, j, k, ⟨hi, hj, hk⟩, _, rfl⟩
    · intro x hx
      simp only [List.mem_cons, List.not_mem_nil, or_false] at hx
      exact ⟨i, hx, hi⟩
    · intro x hx
      simp only [List.mem_cons, List.not_mem_nil, or_false] at hx
      rcases hx with hx | hx | hx
      · exact ⟨i, hx, hi⟩
      · exact ⟨j, hx, hj⟩
      · exact ⟨k, hx, hk⟩
  have hfw : ∀ b, fp d k s6 b → v1.heap.size ≤ b ∧ b < w0.heap.size ∧ b ≠ v3.heap.size ∧ b ≠ v8.heap.size := fun b hb => by
    have h1 := hf6 b hb
    have h2 := hD6.lt hb
    have h3 := hD7.lt hb
    have h4 := hD10.lt hb
    exact ⟨h1.1, h4, h1.2, by omega⟩
  refine mkSV_own (e := T.bool) (bt := 1) (sz := 1) (z := [.bool false]) (by kernel_rfl) (by kernel_rfl) (by kernel_rfl) (by kernel_rfl) rfl (by decide) (by decide) (by decide) (by decide) ?_
  rw [show Int.toNat 256 = 256 from rfl, reps_eq]
  have hh0 : OwnS encBo 1 T.bool (w0.alloc (.cells (List.replicate 256 (Value.bool false)).toArray T.bool)) w0.heap.size ⟨some ⟨w0.heap.size, 0, none⟩, 256, 256⟩ (List.replicate 256 false) := by
    have he : (List.replicate 256 false).flatMap encBo = List.replicate 256 (Value.bool false) := bo_reps 256
    refine ⟨?_, encBo_len, by decide⟩
    rw [he]
    exact Own.new w0 T.bool 1 256 (List.replicate 256 (Value.bool false)) (by rw [List.length_replicate])
  have g11 := ext_alloc w0 (.cells (List.replicate 256 (Value.bool false)).toArray T.bool)
  generalize w0.alloc (.cells (List.replicate 256 (Value.bool false)).toArray T.bool) = w1 at *
  have hs256 : (⟨some ⟨w0.heap.size, 0, none⟩, 256, 256⟩ : SV).len = 256 := rfl
  have hsb : ∀ b, SV.blk (⟨some ⟨w0.heap.size, 0, none⟩, 256, 256⟩ : SV) b → b = w0.heap.size := fun b hb => by
    obtain ⟨A, hA, rfl⟩ := hb
    obtain rfl := Option.some.inj hA
    rfl
  generalize (⟨some ⟨w0.heap.size, 0, none⟩, 256, 256⟩ : SV) = hs at *
  have hrep : ∀ i : Nat, (List.replicate 256 false).getD i false = false := fun i => by
    rw [List.getD_eq_getElem?_getD, List.getElem?_replicate]; split <;> rfl
  have hH0 : Hit D0 D0 ks (List.replicate 256 false) := ⟨hO6.n, hw6, hdn, fun i _ => by rw [hrep, if_neg (by simp)]⟩
  have hl0 : (List.replicate 256 false).length = 256 := List.length_replicate
  have hfl6 := hO6.f
  -- the loop over what is turned
  refine ⟨fun _ v => ∃ (Dx : DK) (hits : List Bool), DkAt v d k s6 Dx ∧ OwnS encBo 1 T.bool v w0.heap.size hs hits ∧ hits.length = 256 ∧ Hit Dx D0 ks hits ∧ Upd (fp d k s6) w0 v, ⟨fun m x v => ∃ (i : Nat) (Dx : DK) (hits : List Bool), x = (i : Int) ∧ i ≤ tu.length ∧ i ≤ 20 ∧ m = 20 - i ∧ DkAt v d k s6 Dx ∧ Dx.flips ≤ 60 + 3 * i ∧ OwnS encBo 1 T.bool v w0.heap.size hs hits ∧ hits.length = 256 ∧ Hit Dx D0 ks hits ∧ Upd (fp d k s6) w0 v, ⟨_, 0, D0, List.replicate 256 false, rfl, by omega, by omega, rfl, hD10.ext g11, by omega, hh0, hl0, hH0, g11.to _⟩, ?_⟩, ?_⟩
  · rintro m _ _ x1 ⟨i, Dx, hits, rfl, hi, hi20, rfl, hDx, hfx, hhx, hhl, hH, ux⟩
    refine ⟨fun _ v => x1 = v ∧ i < tu.length ∧ i < 20, cnd_dec (fun h1 => cnd_dec (fun h2 => ⟨rfl, by omega, by omega⟩) fun h2 => ⟨Dx, hits, hDx, hhx, hhl, hH, ux⟩) (fun h1 => ⟨Dx, hits, hDx, hhx, hhl, hH, ux⟩), ?_⟩
    rintro _ _ _ ⟨rfl, hit, hit20⟩
    have gx : Ext w x1 := g00.trans ux fun x hx hb => by have := (hfw x hb).1; omega
    have hxt := List.getElem?_eq_getElem hit
    generalize tu[i] = xt at hxt
    obtain ⟨p1, p2⟩ := m256_eq xt
    refine ⟨by omega, by omega, SV.getI (hu.ext gx) hit fun A hA => ⟨xt, by rw [hitn]; exact (hu.ext gx).cellI hxt hA, ?_⟩⟩
    rw [p1, hinc i (by omega)]
    generalize m256 xt = at_ at *
    have hz0 := ux.size
    -- what is done where the sector is marked
    have mark : ∀ (v : World) (Dy : DK), DkAt v d k s6 Dy → Dy.flips ≤ 60 + 3 * (i + 1) → OwnS encBo 1 T.bool v w0.heap.size hs hits → Hit Dy D0 ks (hits.set at_ true) → Upd (fp d k s6) w0 v → (0 : Int) ≤ (at_ : Int) ∧ (at_ : Int) < (hs.len : Int) ∧ onP hs.a fun A => (v.cell? (A.add (Int.toNat (at_ : Int) * 1))).isSome = true ∧ v.frozen? (A.add (Int.toNat (at_ : Int) * 1)) = false ∧ ∃ m, m < 20 - i ∧ ∃ (i' : Nat) (Dx : DK) (hits : List Bool), ((i + 1 : Nat) : Int) = (i' : Int) ∧ i' ≤ tu.length ∧ i' ≤ 20 ∧ m = 20 - i' ∧ DkAt (v.setCell (A.add (Int.toNat (at_ : Int) * 1)) (.bool true)) d k s6 Dx ∧ Dx.flips ≤ 60 + 3 * i' ∧ OwnS encBo 1 T.bool (v.setCell (A.add (Int.toNat (at_ : Int) * 1)) (.bool true)) w0.heap.size hs hits ∧ hits.length = 256 ∧ Hit Dx D0 ks hits ∧ Upd (fp d k s6) w0 (v.setCell (A.add (Int.toNat (at_ : Int) * 1)) (.bool true)) := by
      intro v Dy hDy hfy hhy hHy uy
      rw [hitn]
      refine ⟨by omega, by omega, hhy.rd.get (i := at_) (by omega) fun A hA => ?_⟩
      obtain ⟨q1, q2, q3, q4⟩ := bo_set hhy (i := at_) (by omega) hA true
      refine ⟨q1, q2, 20 - (i + 1), by omega, i + 1, Dy, hits.set at_ true, rfl, by omega, by omega, rfl, hDy.upd q4 fun b hb hx => ?_, hfy, q3, by rw [List.length_set]; exact hhl, hHy, uy.trans q4 fun x hx hb => ?_⟩
      · have := hsb b hx; have := (hfw b hb).2.1; omega
      · have := hsb x hb; omega
    cases hhit : hits.getD at_ false with
    | true =>
      have hHs : Hit Dx D0 ks (hits.set at_ true) := ⟨hH.n, hH.w, hH.down, fun i' hi' => by
        rw [hH.at_ i' hi']
        by_cases he : i' = at_
        · subst he
          rw [hhit, List.getD_eq_getElem?_getD (l := hits.set i' true), List.getElem?_set_self (by omega)]; rfl
        · rw [List.getD_eq_getElem?_getD (l := hits.set at_ true), List.getElem?_set_ne (fun g => he g.symm), ← List.getD_eq_getElem?_getD]⟩
      refine ⟨fun m x v => x1 = v ∧ x = 0, ⟨0, rfl, rfl⟩, ?_⟩
      rintro m _ _ _ ⟨rfl, rfl⟩
      refine ⟨fun _ _ => False, cnd_dec (fun h1 => ?_) (fun h1 => mark x1 Dx hDx (by omega) hhx hHs ux), fun _ _ _ hf => hf.elim⟩
      refine ⟨by omega, by omega, hhx.rd.get (i := at_) (by omega) fun A hA => ⟨true, ?_, cnd_neg rfl ?_⟩⟩
      · rw [hitn]
        refine hhx.rd.at_ (i := at_) ?_ hA 0 _ rfl
        rw [List.getD_eq_getElem?_getD] at hhit
        rw [List.getElem?_eq_getElem (by omega)] at hhit ⊢
        simpa using hhit
      · exact mark x1 Dx hDx (by omega) hhx hHs ux
    | false =>
      have hk0 := hH.at_ at_ p2
      rw [hhit, if_neg (by simp)] at hk0
      refine ⟨fun m x v => ∃ (j : Nat) (Dy : DK), x = (j : Int) ∧ j ≤ ks.length ∧ m = ks.length - j ∧ DkAt v d k s6 Dy ∧ Dy.flips ≤ 60 + 3 * i + j ∧ OwnS encBo 1 T.bool v w0.heap.size hs hits ∧ Dy.kept.length = 256 ∧ Dy.waits = [] ∧ Dy.down = false ∧ (∀ i', i' ≠ at_ → Dy.kept.getD i' zeroSec = Dx.kept.getD i' zeroSec) ∧ (Dy.kept.getD at_ zeroSec).1 = turns (D0.kept.getD at_ zeroSec).1 (ks.take j) ∧ Upd (fp d k s6) w0 v, ⟨_, 0, Dx, rfl, by omega, rfl, hDx, by omega, hhx, hH.n, hH.w, hH.down, fun _ _ => rfl, by rw [List.take_zero]; exact hk0, ux⟩, ?_⟩
      rintro m _ _ x2 ⟨j, Dy, rfl, hj, rfl, hDy, hfy, hhy, hny, hwy, hdy, hoth, hthis, uy⟩
      have hfull : ¬ j < ks.length → Hit Dy D0 ks (hits.set at_ true) := fun hge => by
        have hje : j = ks.length := by omega
        subst hje
        rw [List.take_length] at hthis
        refine ⟨hny, hwy, hdy, fun i' hi' => ?_⟩
        by_cases he : i' = at_
        · subst he
          rw [hthis, List.getD_eq_getElem?_getD (l := hits.set i' true), List.getElem?_set_self (by omega)]; rfl
        · rw [hoth i' he, hH.at_ i' hi', List.getD_eq_getElem?_getD (l := hits.set at_ true), List.getElem?_set_ne (fun g => he g.symm), ← List.getD_eq_getElem?_getD]
      refine ⟨fun _ v => x2 = v ∧ j < ks.length, cnd_dec (fun h1 => ?_) (fun h1 => mark x2 Dy hDy (by omega) hhy (hfull (by omega)) uy), ?_⟩
      · refine ⟨by omega, by omega, hhy.rd.get (i := at_) (by omega) fun A hA => ⟨false, ?_, cnd_pos rfl ⟨rfl, by omega⟩⟩⟩
        rw [hitn]
        refine hhy.rd.at_ (i := at_) ?_ hA 0 _ rfl
        rw [List.getD_eq_getElem?_getD] at hhit
        rw [List.getElem?_eq_getElem (by omega)] at hhit ⊢
        simpa using hhit
      rintro _ _ _ ⟨rfl, hjk⟩
      have hks2 : RdI x2 z ks := hks.upd uy fun b hb hx => by have := hzb b hb; have := (hfw b hx).2.2.2; omega
      have hkx := List.getElem?_eq_getElem hjk
      have hkm := hkr _ (List.getElem_mem hjk)
      generalize ks[j] = kx at hkx hkm
      obtain ⟨kn, rfl, hkn⟩ := hkm
      refine ⟨by omega, by omega, SV.getI hks2 hjk fun A hA => ⟨(kn : Int), by rw [hitn]; exact hks2.cellI hkx hA, ?_⟩⟩
      rw [hinc j (by omega)]
      refine CallT.mono (disk_Flip.spec hDy (by omega) (at_ : Int) (kn : Int)) ?_
      have hfd : flipD Dy (at_ : Int) (kn : Int) = ({ Dy with kept := Dy.kept.set at_ (flipS (Dy.kept.getD at_ zeroSec) kn), flips := Dy.flips + 1 }, 0) := by
        rw [flipD, if_neg (by rw [hny]; omega)]; rfl
      rw [hfd]
      rintro _ x3 ⟨_, t3⟩
      refine ⟨ks.length - (j + 1), by omega, j + 1, _, rfl, by omega, rfl, t3.at_, by simp only; omega, ⟨hhy.own.upd t3.u fun b hb hx => by have := hsb b hb; have := (hfw b hx).2.1; omega, encBo_len, by decide⟩, by simp only [List.length_set]; exact hny, hwy, hdy, fun i' he => ?_, ?_, uy.tr t3.u⟩
      · simp only
        rw [List.getD_eq_getElem?_getD, List.getElem?_set_ne (fun g => he g.symm), ← List.getD_eq_getElem?_getD]
        exact hoth i' he
      · simp only
        rw [List.getD_eq_getElem?_getD, List.getElem?_set_self (by omega), Option.getD_some, flip_turn _ hkn, hthis, List.take_add_one, hkx, Option.toList_some, turns_snoc]
        rfl
  rintro _ _ x1 ⟨Dx, hits, hDx, hhx, hhl, hH, ux⟩
  have gx : Ext w x1 := g00.trans ux fun x hx hb => by have := (hfw x hb).1; omega
  have bx := b10.upd ux fun hb => (hfw _ hb).2.2.1 rfl
  have hcap := hhx.len
  refine ⟨fun m x v => ∃ (i : Nat) (p : SV), x = (p, (i : Int)) ∧ i ≤ 256 ∧ m = 256 - i ∧ OwnS encBad 2 T.api_Bad v x1.heap.size p (((List.range i).filter fun i => hits.getD i false).map badAt) ∧ Ext x1 v, ⟨_, 0, ⟨none, 0, 0⟩, rfl, by omega, rfl, OwnS.nil encBad_len (by decide) _ _ _, Upd.refl _ _⟩, ?_⟩
  rintro m _ _ x2 ⟨i, p, rfl, hi, rfl, hp, g2⟩
  dsimp only
  refine cnd_dec (fun hlt => ?_) (fun hge => ?_)
  · have hil : i < hits.length := by omega
    have hgd : hits.getD i false = hits[i] := by rw [List.getD_eq_getElem?_getD, List.getElem?_eq_getElem hil]; rfl
    have hsucc : ((List.range (i + 1)).filter fun i => hits.getD i false).map badAt = (((List.range i).filter fun i => hits.getD i false).map badAt) ++ (if hits[i] = true then [badAt i] else []) := by
      rw [List.range_succ, List.filter_append, List.map_append]
      congr 1
      have hf : ([i].filter fun i => hits.getD i false) = if hits.getD i false = true then [i] else [] := by rw [List.filter_cons, List.filter_nil]
      rw [← hgd, hf]
      cases hits.getD i false <;> rfl
    have hlen : (((List.range i).filter fun i => hits.getD i false).map badAt).length ≤ i := by
      rw [List.length_map]; exact Nat.le_trans (List.length_filter_le _ _) (by simp)
    rw [hinc i (by omega)]
    refine ⟨by omega, by omega, (hhx.ext g2).rd.get hil fun A hA => ⟨hits[i], by rw [hitn]; exact (hhx.ext g2).rd.at_ (List.getElem?_eq_getElem hil) hA 0 _ rfl, cnd_intro (fun hb => ?_) (fun hb => ?_)⟩⟩
    · refine ⟨LY, (bx.ext g2).all, CallT.mono (dunnageref05_Region.spec pl256 (i : Int) x2) ?_⟩
      rintro _ x3 ⟨rfl, g3⟩
      refine app_bad (x := badAt i) (g2.tr g3) (hp.ext g3) (by omega) ?_
      intro p' x4 hp' g4 _ _
      refine ⟨256 - (i + 1), by omega, i + 1, p', rfl, by omega, rfl, ?_, g4⟩
      rw [hsucc, if_pos hb]; exact hp'
    · refine ⟨256 - (i + 1), by omega, i + 1, p, rfl, by omega, rfl, ?_, g2⟩
      rw [hsucc, if_neg (by rw [hb]; simp), List.append_nil]; exact hp
  · have hi' : i = 256 := by omega
    subst hi'
    have hp : OwnS encBad 2 T.api_Bad x2 x1.heap.size p (hitB hits) := hp
    refine ⟨LY, (bx.ext g2).all, CallT.mono (scrub_Look.spec (hDx.ext g2) hH.n (by rw [hH.w]; simp) LY) ?_⟩
    rw [partR_ok hH.down (by decide), show (0 : Int).toNat = 0 from rfl, show (256 : Int).toNat = 256 from rfl, hH.bads hG6 hb]
    rintro ⟨r, re⟩ x3 ⟨hr, hre, g3⟩
    dsimp only at hr hre ⊢
    subst hre
    have hbl : (hitB hits).length < 2 ^ 62 := by
      rw [hitB, List.length_map]
      have h1 := List.length_filter_le (fun i => hits.getD i false) (List.range 256)
      rw [List.length_range] at h1
      omega
    refine cnd_pos rfl (CallT.mono (dunnagehelp_Plain_api_Bad.spec hr.rd (hp.rd.ext g3) hbl) ?_)
    rintro _ x4 ⟨rfl, g4⟩
    exact ⟨by simp, ((gx.tr g2).tr g3).tr g4⟩
theorem i64_flat : ∀ l : List Int, l.flatMap (fun x : Int => [Value.int .i64 x]) = I64 l
  | [] => rfl
  | x :: r => by rw [List.flatMap_cons, i64_flat r]; rfl
theorem ints_rel {w : World} {bd : TypeId → Nat → Prop} {bs : Nat → Prop} {e : TypeId} {a : Option Addr} {len cap : Nat}
    (h : DS.rel w bd bs (.slice e 1 (.int .i64)) [.slice a len cap]) : ∃ l : List Int, RdI w ⟨a, len, cap⟩ l ∧ ∀ x ∈ l, -9223372036854775808 ≤ x ∧ x ≤ 9223372036854775807 := by
  have key : ∀ es : List Value, es.length = 1 → DS.rel w bd bs (.int .i64) es → ∃ x : Int, [Value.int .i64 x] = es ∧ (-9223372036854775808 ≤ x ∧ x ≤ 9223372036854775807) := by
    intro es hl hr
    obtain ⟨n, h0, w0⟩ := hr
    have : IntKind.i64.min ≤ n ∧ n ≤ IntKind.i64.max := by simpa [Lit.wf] using w0
    exact ⟨n, h0.symm, this⟩
  obtain ⟨l, h1, h2, h3, h4⟩ := DS.flat (enc := fun x : Int => [Value.int .i64 x]) (fun x => -9223372036854775808 ≤ x ∧ x ≤ 9223372036854775807) h (fun _ => rfl) (by decide) key
  have hm := i64_flat l
  refine ⟨l, ?_, h4⟩
  have h5 := h1.rd
  rw [hm] at h5
  exact h5
theorem items_cap {w : World} {bd : TypeId → Nat → Prop} {bs : Nat → Prop} {e : TypeId} {n : Nat} {d : DS} {a : Option Addr} {len cap : Nat} (h : DS.rel w bd bs (.slice e n d) [.slice a len cap]) : len ≤ cap ∧ (cap = 0 ∨ bd e cap) := by
  obtain ⟨a', len', cap', he, h⟩ := h
  simp only [List.cons.injEq, Value.slice.injEq, and_true] at he
  obtain ⟨rfl, rfl, rfl⟩ := he
  rcases h with ⟨rfl, rfl, rfl⟩ | ⟨A, rfl, hle, hb, _⟩
  · exact ⟨Nat.le_refl _, .inl rfl⟩
  · exact ⟨hle, .inr hb⟩
theorem dunnagelaw29_ScrubTurned.row {w : World} {a a' : Option Addr} {len cap len' cap' : Nat} {n1 n2 n3 : Int}
    (h : DS.rel w (bdReach Try.prog) bsReach (.slice T.dunnagelaw29_Item 5 (.struct (.cons 0 1 (.int .i64) (.cons 1 1 (.int .i64) (.cons 2 1 .bool (.cons 3 1 (.int .u8) (.cons 4 1 (.slice T.uint8 1 (.int .u8)) .nil))))))) [.slice a len cap])
    (h' : DS.rel w (bdReach Try.prog) bsReach (.slice T.int 1 (.int .i64)) [.slice a' len' cap']) :
    CallT [.one .bool] Try.prog F.dunnagelaw29_ScrubTurned [.slice a len cap, .slice a' len' cap', .int .i64 n1, .int .i64 n2, .int .i64 n3] w fun r w' => r = true ∧ Ext w w' := by
  obtain ⟨l, hl⟩ := items_rel h
  obtain ⟨tu, htu, _⟩ := ints_rel h'
  have hlen : l.length ≤ 3000000000000 := by
    have h1 := hl.rd.len
    have h2 : len ≤ cap ∧ (cap = 0 ∨ bdReach Try.prog T.dunnagelaw29_Item cap) := items_cap h
    have hb : Try.prog.bytesOf T.dunnagelaw29_Item = 48 := by kernel_rfl
    have h3 : len ≤ 3000000000000 := by
      rcases h2.2 with h3 | h3
      · omega
      · unfold bdReach at h3
        rw [hb] at h3
        have h4 : cap * 48 ≤ 140737488351232 := h3
        omega
    have h5 : (⟨a, len, cap⟩ : SV).len = len := rfl
    omega
  exact dunnagelaw29_ScrubTurned.spec hl hlen htu
end Go.Proofs
