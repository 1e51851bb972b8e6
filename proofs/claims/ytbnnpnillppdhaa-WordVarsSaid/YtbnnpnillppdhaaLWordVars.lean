/- The walk of dunnagelaw01.WordVars: it answers true, and turns nothing that was there. Conditions: what came in is of the sizes that the form allows. -/
import Derived.Test.YtbnnpnillppdhaaWordRead
namespace Go.Proofs
open Go Go.Vc
theorem dunnagelaw01_WordVars.spec {v : Nat} {s : SV} {l : List UInt8} {a : Int} {w : World} (hv : v < 2 ^ 64) (hs : RdB w s l) (hc : s.len ≤ s.cap) (hm : s.cap ≤ 140737488351232) (ha : -9223372036854775808 ≤ a ∧ a ≤ 9223372036854775807) :
    CallT [.one .bool] Try.prog F.dunnagelaw01_WordVars [.int .u64 v, .slice s.a s.len s.cap, .int .i64 a] w fun r w' => r = true ∧ Ext w w' := by
  refine dunnagelaw01_WordVars.vc v s a w _ ?_
  have hl : l.length ≤ 140737488351232 := by have := hs.lenB; omega
  refine CallT.mono (dunnagehelp_Own_byte.spec hs hl 71) ?_
  rintro o w1 ⟨_, _, e1, b, ho⟩
  refine CallT.mono (word_ReadVar.spec ho.rd hl a ha.2) ?_
  rintro _ w2 ⟨rfl, e2⟩
  refine CallT.mono (dunnageref01_ReadVar.spec ((hs.ext e1).ext e2) hl a ha.2) ?_
  rintro _ _ ⟨rfl, rfl⟩
  refine CallT.mono (dunnagelaw01_awake.spec w2) ?_
  rintro _ w3 ⟨rfl, e3⟩
  refine cnd_true (CallT.mono (word_Var.spec v hv w3) ?_)
  rintro x w4 ⟨hx, e4, _⟩
  refine CallT.mono (dunnageref01_Var.spec v hv w4) ?_
  rintro y w5 ⟨hy, e5, _⟩
  refine CallT.mono (dunnagehelp_Bytes.spec (hx.rd.ext e5) hy.rd) ?_
  rintro _ _ ⟨rfl, rfl⟩
  refine cnd_pos (by simp) (cnd_pos (by simp) (cnd_pos (by simp) (cnd_pos (by simp) ?_)))
  refine CallT.mono (dunnagehelp_Kept_byte.spec (c := 71) ((((ho.ext e2).ext e3).ext e4).ext e5) (((((hs.ext e1).ext e2).ext e3).ext e4).ext e5) (by omega)) ?_
  rintro _ w6 ⟨rfl, e6⟩
  exact ⟨by simp, ((((e1.tr e2).tr e3).tr e4).tr e5).tr e6⟩
end Go.Proofs
