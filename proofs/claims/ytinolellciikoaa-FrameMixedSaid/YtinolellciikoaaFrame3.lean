/- dunnageref01.Reader: Num, Most. Conditions: those of each contract. -/
import Derived.Test.YtinolellciikoaaCond13
import Derived.Test.YtinolellciikoaaFrame2
namespace Go.Proofs
open Go Go.Vc
/-- The reader's place and fault, and what Num makes of them. -/
def numR (l : List UInt8) (at_ err : Int) : Int × Int × Int :=
  if err ≠ 0 then (0, at_, err) else if (readVar l at_).2.2 ≠ 0 then (0, at_, (readVar l at_).2.2) else ((readVar l at_).1, (readVar l at_).2.1, 0)
def mostR (l : List UInt8) (at_ err n : Int) : Int × Int × Int :=
  if (numR l at_ err).2.2 ≠ 0 then (0, (numR l at_ err).2.1, (numR l at_ err).2.2) else if (numR l at_ err).1 > n then (0, (numR l at_ err).2.1, 11) else numR l at_ err
@[reducible] def rdV (s : SV) (at_ err : Int) : List Value := [.slice s.a s.len s.cap, .int .i64 at_, .int .i64 err]
theorem num.spec {w : World} {b : Nat} {s : SV} {l : List UInt8} {at_ err : Int} (hb : BK w b T.dunnageref01_Reader (rdV s at_ err)) (hs : RdB w s l) (hl : l.length ≤ 140737488351232) (ha : at_ ≤ 9223372036854775807) :
    CallT [.one (.int .u64)] Try.prog F.dunnageref01_Reader_Num [.pointer (some ⟨b, 0, none⟩)] w fun r w' => r = (numR l at_ err).1 ∧ BK w' b T.dunnageref01_Reader (rdV s (numR l at_ err).2.1 (numR l at_ err).2.2) ∧ Upd (fun x => x = b) w w' := by
  refine dunnageref01_Reader_Num.vc (some ⟨b, 0, none⟩) w _ ?_
  refine ⟨err, hb.get 2 rfl, cnd_bne (fun h => ?_) (fun h => ?_)⟩
  · rw [numR, if_pos h]; exact ⟨rfl, hb, Upd.refl _ _⟩
  have hd : BK w.drew b T.dunnageref01_Reader (rdV s at_ err) := hb
  have hlt := hb.lt
  refine ⟨fun w' => BK w' b T.dunnageref01_Reader (rdV s at_ err), hd, s, fun _ h => h.get 0 rfl, at_, fun _ h => h.get 1 rfl, CallT.mono (dunnageref01_ReadVar.spec (hs.ext (ext_drew _)) hl at_ ha) ?_⟩
  rintro ⟨v, n, e⟩ _ ⟨he, rfl⟩
  have b1 := hd
  have e01 : Ext w w.drew := ext_drew w
  have h1 : (readVar l at_).1 = v := by rw [← he]
  have h2 : (readVar l at_).2.1 = n := by rw [← he]
  have h3 : (readVar l at_).2.2 = e := by rw [← he]
  dsimp only
  refine cnd_bne (fun hne => ?_) (fun heq => ?_)
  · obtain ⟨c1, c2, c3⟩ := b1.store 2 (by simp) (.int .i64 e)
    refine ⟨c1, c2, ?_⟩
    rw [numR, if_neg (by simpa using h), h3, if_pos hne]
    exact ⟨rfl, c3, (e01.to _).set (p := Addr.add ⟨b, 0, none⟩ 2) (fun _ => by simp) _⟩
  · obtain ⟨c1, c2, c3⟩ := b1.store 1 (by simp) (.int .i64 n)
    refine ⟨c1, c2, ?_⟩
    rw [numR, if_neg (by simpa using h), h3, if_neg (by simpa using heq), h1, h2]
    refine ⟨rfl, ?_, (e01.to _).set (p := Addr.add ⟨b, 0, none⟩ 1) (fun _ => by simp) _⟩
    rw [h] at c3
    exact c3
theorem most.spec {w : World} {b : Nat} {s : SV} {l : List UInt8} {at_ err n : Int} (hb : BK w b T.dunnageref01_Reader (rdV s at_ err)) (hs : RdB w s l) (hl : l.length ≤ 140737488351232) (ha : at_ ≤ 9223372036854775807) (hn : 0 ≤ n ∧ n ≤ 1000000) (hv : 0 ≤ (numR l at_ err).1) :
    CallT [.one (.int .i64)] Try.prog F.dunnageref01_Reader_Most [.pointer (some ⟨b, 0, none⟩), .int .u64 n] w fun r w' => r = (mostR l at_ err n).1 ∧ BK w' b T.dunnageref01_Reader (rdV s (mostR l at_ err n).2.1 (mostR l at_ err n).2.2) ∧ Upd (fun x => x = b) w w' := by
  refine dunnageref01_Reader_Most.vc (some ⟨b, 0, none⟩) n w _ ?_
  refine CallT.mono (num.spec hb hs hl ha) ?_
  rintro _ w1 ⟨rfl, b1, u1⟩
  have hmo : mostR l at_ err n = if (numR l at_ err).2.2 ≠ 0 then (0, (numR l at_ err).2.1, (numR l at_ err).2.2) else if (numR l at_ err).1 > n then (0, (numR l at_ err).2.1, 11) else numR l at_ err := rfl
  generalize numR l at_ err = q at b1 hv hmo ⊢
  obtain ⟨x, p, e⟩ := q
  dsimp only at b1 hv hmo ⊢
  refine ⟨fun _ w' => BK w' b T.dunnageref01_Reader (rdV s (mostR l at_ err n).2.1 (mostR l at_ err n).2.2) ∧ Upd (fun x => x = b) w w', ⟨fun y w' => w1 = w' ∧ y = decide (e = 0 ∧ x > n), ⟨e, b1.get 2 rfl, cnd_beq (fun h => ⟨rfl, ?_⟩) (fun h => ⟨rfl, ?_⟩)⟩, ?_⟩, ?_⟩
  · rw [decide_eq_decide]; exact ⟨fun g => ⟨h, g⟩, fun g => g.2⟩
  · rw [eq_comm, decide_eq_false_iff_not]; exact fun g => h g.1
  · rintro _ _ _ ⟨rfl, rfl⟩
    refine cnd_dec (fun g => ?_) (fun g => ?_)
    · obtain ⟨c1, c2, c3⟩ := b1.store 2 (by simp) (.int .i64 11)
      rw [if_neg (by simpa using g.1), if_pos g.2] at hmo
      refine ⟨c1, c2, ?_, u1.set (p := Addr.add ⟨b, 0, none⟩ 2) (fun _ => by simp) _⟩
      rw [hmo]; exact c3
    · refine ⟨?_, u1⟩
      by_cases h : e = 0
      · rw [if_neg (by simpa using h), if_neg (fun h2 => g ⟨h, h2⟩)] at hmo
        rw [hmo]; exact b1
      · rw [if_pos h] at hmo
        rw [hmo]; exact b1
  rintro _ _ w2 ⟨b2, u2⟩
  refine ⟨_, b2.get 2 rfl, cnd_bne (fun h => ⟨?_, b2, u2⟩) (fun h => ⟨?_, b2, u2⟩)⟩
  · by_cases h1 : e = 0
    · by_cases h2 : x > n
      · rw [if_neg (by simpa using h1), if_pos h2] at hmo; rw [hmo]
      · rw [if_neg (by simpa using h1), if_neg h2] at hmo; rw [hmo] at h; exact absurd h1 h
    · rw [if_pos h1] at hmo; rw [hmo]
  · by_cases h1 : e = 0
    · by_cases h2 : x > n
      · rw [if_neg (by simpa using h1), if_pos h2] at hmo; rw [hmo] at h; exact absurd h (by simp)
      · rw [if_neg (by simpa using h1), if_neg h2] at hmo; rw [hmo]
        show IntKind.i64.wrap x = x
        rw [i64_id] <;> omega
    · rw [if_pos h1] at hmo; rw [hmo] at h; exact absurd h h1
end Go.Proofs
