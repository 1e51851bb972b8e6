/- Maps with plain keys: what is under each key; make, look up, set. Conditions: those that each lemma names. -/
import Derived.Test.YtdldamlephggmaaMem2
import Derived.MapKept
namespace Go.Vc
open Go Go.MapKept
/-- The map in a block has just these: f tells what is under each key. -/
structure MapIs (w : World) (r : Nat) (d : TypeDesc) (f : Value → Option Value) : Prop where
  ex : ∃ es clock, w.heap[r]? = some (.map es clock) ∧ (∀ x ∈ es.toList, IsKey d x.key) ∧ (es.toList.map (·.key)).Nodup ∧
    (∀ k v, f k = some v ↔ ∃ e ∈ es.toList, e.key = k ∧ e.val = v)
theorem MapIs.upd {M : Nat → Prop} {w w' : World} {r : Nat} {d : TypeDesc} {f : Value → Option Value} (h : MapIs w r d f) (hu : Upd M w w') (hm : ¬ M r) : MapIs w' r d f := by
  obtain ⟨es, clock, hb, h⟩ := h.ex
  exact ⟨es, clock, hu.get hb hm, h⟩
theorem MapIs.ext {w w' : World} {r : Nat} {d : TypeDesc} {f : Value → Option Value} (h : MapIs w r d f) (hu : Ext w w') : MapIs w' r d f := h.upd hu id
theorem MapIs.lt {w : World} {r : Nat} {d : TypeDesc} {f : Value → Option Value} (h : MapIs w r d f) : r < w.heap.size := by
  obtain ⟨es, clock, hb, _⟩ := h.ex
  exact lt_of_blk hb
theorem MapIs.empty (w : World) (d : TypeDesc) : MapIs (w.alloc (.map #[] 0)) w.heap.size d fun _ => none :=
  ⟨#[], 0, blk_new w _, by simp, by simp, by simp⟩
theorem mkMV_new {P : Program} {t : TypeId} {w : World} {K : Option Nat → World → Prop} (hk : K (some w.heap.size) (w.alloc (.map #[] 0))) : mkMV P t none w K :=
  ⟨some w.heap.size, w.alloc (.map #[] 0), rfl, hk⟩
theorem mkMV_hint {P : Program} {t kt et : TypeId} {k : IntKind} {n : Int} {w : World} {K : Option Nat → World → Prop} (hu : P.underlying t = some (.map kt et)) (hk : K (some w.heap.size) (w.alloc (.map #[] 0))) :
    mkMV P t (some (.int k n)) w K := by
  refine ⟨some w.heap.size, w.alloc (.map #[] 0), ?_, hk⟩
  simp [Instr.makeMap, run_underlying hu, asInt, asIntOf]
theorem find_spec {w : World} {r : Nat} {d : TypeDesc} {f : Value → Option Value} (h : MapIs w r d f) {k : Value} (hk : IsKey d k) :
    ∃ es clock, w.heap[r]? = some (.map es clock) ∧ ((f k = none ∧ Instr.findNow d k es.toList 0 = some none) ∨ ∃ j e, f k = some e.val ∧ Instr.findNow d k es.toList 0 = some (some (j, e.val)) ∧ es[j]? = some e ∧ e.key = k) := by
  obtain ⟨es, clock, hb, hks, hnd, hf⟩ := h.ex
  refine ⟨es, clock, hb, ?_⟩
  rcases findNow_spec hk es.toList 0 hks with ⟨h1, h2⟩ | ⟨j, e, h1, h2, h3⟩
  · refine .inl ⟨?_, h1⟩
    cases hfk : f k with
    | none => rfl
    | some v =>
      obtain ⟨e, he, hek, _⟩ := (hf k v).1 hfk
      exact absurd hek (h2 e he)
  · rw [Nat.zero_add] at h1
    exact .inr ⟨j, e, (hf k e.val).2 ⟨e, List.mem_of_getElem? h2, h3, rfl⟩, h1, by simpa using h2, h3⟩
theorem zero_val {P : Program} {t : TypeId} {v : Value} (h : (P.info? t).bind (·.zero) = some v) (w : World) : (zeroValue t).run P w = .ok v w := by
  cases hi : P.info? t with
  | none => simp [hi] at h
  | some i => rw [hi] at h; simp only [Option.bind_some] at h; simp [zeroValue, run_info hi, h]
/-- What is under a key, or the zero. -/
theorem lk_get {P : Program} {t kt et : TypeId} {d : TypeDesc} {w : World} {r : Nat} {f : Value → Option Value} {k z : Value} {rt : List Ty} {K : Tys rt → World → Prop} {v : Value} {x : Tys rt}
    (h : MapIs w r d f) (hu : P.underlying t = some (.map kt et)) (hd : P.underlying kt = some d) (hk : IsKey d k) (hz : (zeroValue et).run P w = .ok z w) (hv : v = (f k).getD z) (hx : encR rt x = v) (hK : K x w) :
    lkV P t (.map (some r)) k false w rt K := by
  obtain ⟨es, clock, hb, hc⟩ := find_spec h hk
  refine ⟨x, w, ?_, hK⟩
  rcases hc with ⟨h1, h2⟩ | ⟨j, e, h1, h2, _⟩
  · rw [h1] at hv
    simp [Instr.lookup, run_underlying hu, MapKept.run_getObj_map hb, run_checkKey hd hk, run_findKey hd h2, hz, hx, hv]
  · rw [h1] at hv
    simp [Instr.lookup, run_underlying hu, MapKept.run_getObj_map hb, run_checkKey hd hk, run_findKey hd h2, hx, hv]
theorem lk_ok {P : Program} {t kt et : TypeId} {d : TypeDesc} {w : World} {r : Nat} {f : Value → Option Value} {k z : Value} {rt : List Ty} {K : Tys rt → World → Prop} {x : Tys rt}
    (h : MapIs w r d f) (hu : P.underlying t = some (.map kt et)) (hd : P.underlying kt = some d) (hk : IsKey d k) (hz : (zeroValue et).run P w = .ok z w) (hx : encR rt x = .tuple #[(f k).getD z, .bool (f k).isSome]) (hK : K x w) :
    lkV P t (.map (some r)) k true w rt K := by
  obtain ⟨es, clock, hb, hc⟩ := find_spec h hk
  refine ⟨x, w, ?_, hK⟩
  rcases hc with ⟨h1, h2⟩ | ⟨j, e, h1, h2, _⟩
  · rw [h1] at hx
    simp [Instr.lookup, run_underlying hu, MapKept.run_getObj_map hb, run_checkKey hd hk, run_findKey hd h2, hz, hx]
  · rw [h1] at hx
    simp [Instr.lookup, run_underlying hu, MapKept.run_getObj_map hb, run_checkKey hd hk, run_findKey hd h2, hx]
theorem Upd.putO {M : Nat → Prop} {a b : World} (h : Upd M a b) {r : Nat} (hr : r < a.heap.size → M r) (o : Obj) : Upd M a { b with heap := b.heap.setIfInBounds r o } :=
  h.trans (M' := fun x => x = r) ⟨rfl, rfl, rfl, by simp, fun x _ hm => by simp [Ne.symm hm]⟩ fun _ hx e => by subst e; exact hr hx
/-- A key gets a value. -/
theorem mup_set {P : Program} {t kt et : TypeId} {d : TypeDesc} {w : World} {r : Nat} {f : Value → Option Value} {k v : Value} {K : World → Prop}
    (h : MapIs w r d f) (hu : P.underlying t = some (.map kt et)) (hd : P.underlying kt = some d) (hk : IsKey d k)
    (g : Value → Option Value) (hg1 : g k = some v) (hg2 : ∀ q, q ≠ k → g q = f q) (hK : ∀ w', Upd (fun x => x = r) w w' → w'.heap.size = w.heap.size → MapIs w' r d g → K w') :
    mupV P t (.map (some r)) k v w K := by
  obtain ⟨es, clock, hb, hks, hnd, hf⟩ := h.ex
  rcases findNow_spec hk es.toList 0 hks with ⟨h1, h2⟩ | ⟨j, e, h1, h2, h3⟩
  · refine ⟨{ w with heap := w.heap.setIfInBounds r (.map (es.push { key := k, val := v, born := clock }) (clock + 1)) }, ?_, hK _ ((Upd.refl (fun x => x = r) w).putO (fun _ => rfl) _) (by simp) ⟨_, _, (heap_set hb).1, ?_, ?_, ?_⟩⟩
    · simp [Instr.mapUpdate, run_underlying hu, MapKept.run_getObj_map hb, run_checkKey hd hk, run_findKey hd h1, run_setObj_map _ hb]
    · intro x hx
      simp only [Array.toList_push, List.mem_append, List.mem_singleton] at hx
      rcases hx with hx | rfl
      · exact hks x hx
      · exact hk
    · simp only [Array.toList_push, List.map_append, List.map_cons, List.map_nil]
      rw [List.nodup_append]
      refine ⟨hnd, by simp, ?_⟩
      intro a ha b hb' hab
      simp only [List.mem_singleton] at hb'
      obtain ⟨x, hx, rfl⟩ := List.mem_map.1 ha
      exact h2 x hx (by rw [hab, hb'])
    · intro q u
      simp only [Array.toList_push, List.mem_append, List.mem_singleton]
      by_cases hq : q = k
      · subst hq
        rw [hg1]
        constructor
        · intro hu'; obtain rfl := Option.some.inj hu'; exact ⟨_, .inr rfl, rfl, rfl⟩
        · rintro ⟨e, he | rfl, hek, hev⟩
          · exact absurd hek (h2 e he)
          · rw [← hev]
      · rw [hg2 q hq, hf]
        constructor
        · rintro ⟨e, he, h⟩; exact ⟨e, .inl he, h⟩
        · rintro ⟨e, he | rfl, hek, hev⟩
          · exact ⟨e, he, hek, hev⟩
          · exact absurd hek.symm hq
  · rw [Nat.zero_add] at h1
    have hj : es[j]? = some e := by simpa using h2
    refine ⟨{ w with heap := w.heap.setIfInBounds r (.map (es.modify j fun e => { e with key := k, val := v }) clock) }, ?_, hK _ ((Upd.refl (fun x => x = r) w).putO (fun _ => rfl) _) (by simp) ⟨_, _, (heap_set hb).1, ?_, ?_, ?_⟩⟩
    · simp [Instr.mapUpdate, run_underlying hu, MapKept.run_getObj_map hb, run_checkKey hd hk, run_findKey hd h1, hj, h3, run_keyThatStays hk, run_setObj_map _ hb]
    · have hkey : ∀ e', es[j]? = some e' → ({ e' with key := k, val := v } : MapEntry).key = e'.key := fun e' he' => by rw [hj] at he'; cases he'; exact h3.symm
      exact isKey_modify hks _ _ hkey
    · have hkey : ∀ e', es[j]? = some e' → ({ e' with key := k, val := v } : MapEntry).key = e'.key := fun e' he' => by rw [hj] at he'; cases he'; exact h3.symm
      rw [modify_keys j _ hkey]; exact hnd
    · intro q u
      have hjl : j < es.toList.length := (List.getElem?_eq_some_iff.1 h2).1
      have hmem : ∀ x : MapEntry, x ∈ (es.modify j fun e => { e with key := k, val := v }).toList ↔ x = { e with key := k, val := v } ∨ (x ∈ es.toList ∧ x.key ≠ k) := by
        intro x
        rw [Array.toList_modify]
        constructor
        · intro hx
          obtain ⟨i, hi⟩ := List.mem_iff_getElem?.1 hx
          rw [List.getElem?_modify] at hi
          by_cases hij : j = i
          · subst hij
            rw [h2] at hi
            simp at hi
            exact .inl hi.symm
          · simp only [hij, if_false] at hi
            cases hei : es.toList[i]? with
            | none => rw [hei] at hi; simp at hi
            | some y =>
              rw [hei] at hi
              simp at hi
              subst hi
              refine .inr ⟨List.mem_of_getElem? hei, fun hyk => hij ?_⟩
              have h1' : (es.toList.map (·.key))[j]? = some k := by simp [h2, h3]
              have h2' : (es.toList.map (·.key))[i]? = some k := by simp [hei, hyk]
              exact (List.getElem?_inj (by simpa using hjl) hnd).1 (h1'.trans h2'.symm)
        · rintro (rfl | ⟨hx, hxk⟩)
          · exact List.mem_iff_getElem?.2 ⟨j, by rw [List.getElem?_modify, h2]; simp⟩
          · obtain ⟨i, hi⟩ := List.mem_iff_getElem?.1 hx
            refine List.mem_iff_getElem?.2 ⟨i, ?_⟩
            rw [List.getElem?_modify]
            by_cases hij : j = i
            · subst hij; rw [h2] at hi; obtain rfl := Option.some.inj hi; exact absurd h3 hxk
            · rw [hi]; simp [hij]
      by_cases hq : q = k
      · subst hq
        rw [hg1]
        constructor
        · intro hu'; obtain rfl := Option.some.inj hu'; exact ⟨_, (hmem _).2 (.inl rfl), rfl, rfl⟩
        · rintro ⟨x, hx, hxk, hxv⟩
          rcases (hmem x).1 hx with rfl | ⟨_, hne⟩
          · rw [← hxv]
          · exact absurd hxk hne
      · rw [hg2 q hq, hf]
        constructor
        · rintro ⟨x, hx, hxk, hxv⟩; exact ⟨x, (hmem x).2 (.inr ⟨hx, fun h => hq (hxk.symm.trans h)⟩), hxk, hxv⟩
        · rintro ⟨x, hx, hxk, hxv⟩
          rcases (hmem x).1 hx with rfl | ⟨hx, _⟩
          · exact absurd hxk.symm hq
          · exact ⟨x, hx, hxk, hxv⟩
end Go.Vc
