/- disk: Fork. Conditions: those of the contract. -/
import Derived.Test.YtinolellciikoaaCond8
import Derived.Test.YtinolellciikoaaDisk3
namespace Go.Proofs
open Go Go.Vc
theorem disk_Fork.spec {w : World} {d : Nat} {k s : SV} {D : DK} (h : DkAt w d k s D) (hn : D.waits.length ≤ 2000000) :
    CallT [.one .ptr] Try.prog F.disk_Disk_Fork [dptr d] w fun r w' => Ext w w' ∧ ∃ d2 k2 s2, r = some ⟨d2, 0, none⟩ ∧ DkAt w' d2 k2 s2 D ∧ ∀ b, fp d2 k2 s2 b → w.heap.size ≤ b := by
  refine disk_Disk_Fork.vc (some ⟨d, 0, none⟩) w _ ?_
  refine cnd_neg rfl ⟨(k, s, D.down, (D.armed : Int), (D.flips : Int)), h.blk.all, ?_⟩
  generalize hc : w.alloc _ = w1
  dsimp only
  generalize hd : setCells w1 _ 0 _ = w2
  obtain ⟨c2, b2, e2, z2⟩ := bk_mk (T := T.disk_Disk) (z := [.slice none 0 0, .slice none 0 0, .bool false, .int .i64 0, .int .i64 0]) (vs := dkVs k s D) hc hd rfl
  have h2 := h.ext e2.drew
  refine ⟨c2, fun w' => BK w' d T.disk_Disk (dkVs k s D), h2.blk, k, fun _ hh => hh.get 0 rfl, s, fun _ hh => hh.get 1 rfl, ?_⟩
  refine CallT.mono (clone_content.spec h2.kept.rd h2.num) ?_
  rintro k2 w3 ⟨hk, e3⟩
  refine ⟨h2.blk.ext e3, CallT.mono (clone_write.spec (h2.wait.ext e3).rd hn) ?_⟩
  rintro s2 w4 ⟨hs, e4⟩
  have b4 : BK w4 w.heap.size T.disk_Disk (dkVs k s D) := (BK.ext (w := w2.drew) b2 e3).ext e4
  have e04 : Ext w w4 := (e2.drew.tr e3).tr e4
  obtain ⟨f1, f2, f3⟩ := b4.store 0 (by simp) (.slice k2.a k2.len k2.cap)
  obtain ⟨f4, f5, f6⟩ := f3.store 1 (by simp) (.slice s2.a s2.len s2.cap)
  have z2' : w2.drew.heap.size = w.heap.size + 1 := z2
  have hkg : ∀ b, k2.blk b → w.heap.size + 1 ≤ b ∧ b < w3.heap.size := fun b hb => ⟨by have := hk.own.blk_ge hb; omega, hk.own.blk_lt hb⟩
  have hsg : ∀ b, s2.blk b → w3.heap.size ≤ b := fun b hb => hs.own.blk_ge hb
  have hz3 : w.heap.size + 1 ≤ w3.heap.size := by have := e3.size; omega
  refine ⟨h2.blk.ext (e3.tr e4), f1, f2, f4, f5, ?_, w.heap.size, k2, s2, rfl, ⟨f6, ?_, ?_, ?_, ?_, ?_, h.rng, h.num, h.arm⟩, ?_⟩
  · exact (e04.set (p := Addr.add ⟨w.heap.size, 0, none⟩ 0) (fun h => by simp at h) _).set (p := Addr.add ⟨w.heap.size, 0, none⟩ 1) (fun h => by simp at h) _
  · have u : Upd (fun b => b = w.heap.size) w4 ((w4.setCell (Addr.add ⟨w.heap.size, 0, none⟩ 0) (.slice k2.a k2.len k2.cap)).setCell (Addr.add ⟨w.heap.size, 0, none⟩ 1) (.slice s2.a s2.len s2.cap)) :=
      ((Upd.refl (fun b => b = w.heap.size) w4).set (p := Addr.add ⟨w.heap.size, 0, none⟩ 0) (fun _ => by simp) _).set (p := Addr.add ⟨w.heap.size, 0, none⟩ 1) (fun _ => by simp) _
    exact ⟨((hk.ext e4).own.upd u fun b hb e => by have := hkg b hb; omega).mono (Nat.zero_le _), encSec_len, by decide⟩
  · have u : Upd (fun b => b = w.heap.size) w4 ((w4.setCell (Addr.add ⟨w.heap.size, 0, none⟩ 0) (.slice k2.a k2.len k2.cap)).setCell (Addr.add ⟨w.heap.size, 0, none⟩ 1) (.slice s2.a s2.len s2.cap)) :=
      ((Upd.refl (fun b => b = w.heap.size) w4).set (p := Addr.add ⟨w.heap.size, 0, none⟩ 0) (fun _ => by simp) _).set (p := Addr.add ⟨w.heap.size, 0, none⟩ 1) (fun _ => by simp) _
    exact ⟨(hs.own.upd u fun b hb e => by have := hsg b hb; omega).mono (Nat.zero_le _), encWr_len, by decide⟩
  · intro hb; have := hkg _ hb; omega
  · intro hb; have := hsg _ hb; omega
  · intro b hb hb'; have := hkg b hb; have := hsg b hb'; omega
  · rintro b (rfl | hb | hb)
    · exact Nat.le_refl _
    · have := hkg b hb; omega
    · have := hsg b hb; omega
end Go.Proofs
