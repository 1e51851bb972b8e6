/- The facts about the program's head that every row of this seat asks for, each proved once. Conditions: none. -/
import Derived.Test.YtinolellciikoaaRows
import Derived.Test.YtinolellciikoaaRow
namespace Go.Proofs
open Go Go.Vc
theorem wordsSigns_word : ∀ (cs r : List Char), cs.all (fun c => c != Char.ofNat 32) = true → wordsSigns (cs ++ Char.ofNat 32 :: r) = cs :: wordsSigns r
  | [], r, _ => rfl
  | c :: cs, r, h => by
    simp only [List.all_cons, Bool.and_eq_true] at h
    have hc : c ≠ Char.ofNat 32 := by simpa using h.1
    have ih := wordsSigns_word cs r h.2
    rw [List.cons_append]
    conv => lhs; unfold wordsSigns
    split
    · rename_i heq; cases heq
    · rename_i heq; injection heq with h1 h2; exact absurd h1 hc
    · rename_i heq; injection heq with h1 h2; subst h1 h2; rw [ih]
theorem headWords {a b r : List Char} {x : String} (h : x = String.ofList (a ++ Char.ofNat 32 :: (b ++ Char.ofNat 32 :: ("cut".toList ++ Char.ofNat 32 :: r)))) (ha : a == "harness".toList) (hb : isSumSigns b = true) (hw : (a.all fun c => c != Char.ofNat 32) = true) (hv : (b.all fun c => c != Char.ofNat 32) = true) :
    behindMainWord (wordsSigns x.toList) = "cut".toList :: wordsSigns r := by
  rw [h, String.toList_ofList, wordsSigns_word _ _ hw, wordsSigns_word _ _ hv, wordsSigns_word _ _ (by decide)]
  rw [behindMainWord, if_pos (by rw [ha, hb]; rfl)]
set_option maxRecDepth 100000 in
theorem fHead : ∃ r, behindMainWord (wordsSigns Try.prog.initOrder.toList) = "cut".toList :: r :=
  ⟨_, headWords (a := [_, _, _, _, _, _, _]) (b := [_, _, _, _, _, _, _, _, _, _, _, _, _, _, _, _, _, _, _, _, _, _, _, _, _, _, _, _, _, _, _, _, _, _, _, _, _, _, _, _, _, _, _, _, _, _, _, _, _, _, _, _, _, _, _, _, _, _, _, _, _, _, _, _]) (show Try.prog.initOrder = String.ofList _ from rfl) (by decide) (by decide) (by decide) (by decide)⟩
theorem enter_of {P : Program} {r : List (List Char)} (h : behindMainWord (wordsSigns P.initOrder.toList) = "cut".toList :: r) (h2 : P.laysLater = false) (h3 : P.bearsReflect = false) (h4 : P.doorRows = []) : P.mayEnter = true := by
  unfold Program.mayEnter
  rw [h]
  have hs : stripLifts liftWords ("cut".toList :: r) = ([], "cut".toList :: r) := rfl
  simp only [hs, h2, h3]
  unfold Program.doorFits
  rw [h4]
  rfl
theorem make_of {P : Program} {r : List (List Char)} (h : behindMainWord (wordsSigns P.initOrder.toList) = "cut".toList :: r) : P.make = some .cut := by
  unfold Program.make
  rw [h]
  rfl
theorem lifts_of {P : Program} {r : List (List Char)} (h : behindMainWord (wordsSigns P.initOrder.toList) = "cut".toList :: r) : P.liftsFinal = false := by
  unfold Program.liftsFinal Program.headLifts
  rw [h]
  rfl
theorem fEnter : Try.prog.mayEnter = true := by
  obtain ⟨_, h⟩ := fHead
  exact enter_of h (by kernel_rfl) (by kernel_rfl) (by kernel_rfl)
theorem fLifts : Try.prog.liftsFinal = false := by
  obtain ⟨_, h⟩ := fHead
  exact lifts_of h
theorem fMake : Try.prog.make = some .cut := by
  obtain ⟨_, h⟩ := fHead
  exact make_of h
theorem fLaid : laidOutB Try.prog = true := by kernel_rfl
theorem fMaps : mapsRowed Try.prog = true := by kernel_rfl
theorem fHeard : Try.prog.stopsHeard = true := by kernel_rfl
theorem fKeys : Try.prog.plainKeys = true := by kernel_rfl
end Go.Proofs
