/- MAPS OF THE CALL's OWN, AS FUNCTIONS: of whatever program: 'MapIs w b enc f n': block b of w is a map of n entries in which key k has the value 'f k'. -/
import Derived.Test.YtiamohfpohjdpaaDoorHeap
import Derived.Maps.OwnOps
import Derived.MapKept
import Derived.ChangeMaps5
namespace Go.Proofs.YtiamohfpohjdpaaDoor
open Go.RowKit Go.Joins
set_option linter.unusedSimpArgs false
set_option linter.unusedVariables false

theorem nodup_push {K : Type} {k : K} {v : Value} {L : List (K × Value)} (h : (L.map (·.1)).Nodup) (hn : ∀ p ∈ L, p.1 ≠ k) : ((L ++ [(k, v)]).map (·.1)).Nodup := by
  rw [List.map_append]
  refine List.nodup_append.2 ⟨h, by simp, fun a ha c hc e => ?_⟩
  obtain ⟨x, hx, rfl⟩ := List.mem_map.1 ha
  simp at hc
  exact hn x hx (e.trans hc)
theorem keys_set {K : Type} {k : K} {u v : Value} {L : List (K × Value)} {i : Nat} (h : L[i]? = some (k, u)) : (L.set i (k, v)).map (·.1) = L.map (·.1) := by
  rw [List.map_set]
  apply List.ext_getElem?
  intro j
  rw [List.getElem?_set]
  by_cases hj : i = j
  · subst hj
    obtain ⟨h1, h2⟩ := List.getElem?_eq_some_iff.1 h
    simp [h1, h2]
  · simp [hj]
section
variable {K : Type} [DecidableEq K]
def pos (k : K) : List (K × Value) → Nat → Option (Nat × Value)
  | [], _ => none
  | p :: L, i => if k = p.1 then some (i, p.2) else pos k L (i + 1)
def get (k : K) (L : List (K × Value)) : Option Value := (pos k L 0).map (·.2)
theorem pos_shift (k : K) : ∀ (L : List (K × Value)) (i : Nat), (pos k L (i + 1)) = (pos k L i).map fun p => (p.1 + 1, p.2)
  | [], _ => rfl
  | p :: L, i => by
    unfold pos
    split
    · rfl
    · exact pos_shift k L (i + 1)
theorem get_cons (k : K) (p : K × Value) (L : List (K × Value)) : get k (p :: L) = if k = p.1 then some p.2 else get k L := by
  unfold get
  rw [pos]
  split
  · rfl
  · rw [pos_shift, Option.map_map]; rfl
theorem pos_some (k : K) : ∀ (L : List (K × Value)) (i j : Nat) (v : Value), pos k L i = some (j, v) → i ≤ j ∧ L[j - i]? = some (k, v) ∧ ∀ m, m < j - i → ∀ q, L[m]? = some q → q.1 ≠ k
  | [], _, _, _, h => by cases h
  | p :: L, i, j, v, h => by
    unfold pos at h
    split at h
    · rename_i hk
      cases h
      exact ⟨Nat.le_refl _, by simp [hk], fun m hm => by omega⟩
    · rename_i hk
      obtain ⟨h1, h2, h3⟩ := pos_some k L (i + 1) j v h
      refine ⟨by omega, ?_, fun m hm q hq => ?_⟩
      · rw [show j - i = (j - (i + 1)) + 1 by omega, List.getElem?_cons_succ]; exact h2
      · cases m with
        | zero => simp at hq; subst hq; exact fun e => hk e.symm
        | succ m => exact h3 m (by omega) q (by simpa using hq)
/-- how keys of a type are met -/
structure KeyIs (P : Program) (t : TypeId) (enc : K → Value) : Prop where
  check : ∀ (k : K) (e : Bool) (w : World), (Instr.checkKey e 10000 t (enc k)).run P w = .ok () w
  find : ∀ (k : K) (w : World) (es : List MapEntry) (L : List (K × Value)), es.map (fun e => (e.key, e.val)) = L.map (fun p => (enc p.1, p.2)) → (Instr.findKey t (enc k) es).run P w = .ok (pos k L 0) w
  same : ∀ k, Instr.sameBits 10000 (enc k) (enc k) = true
/-- block b is a map of n entries -/
def MapIs (w : World) (b : Nat) (enc : K → Value) (f : K → Option Value) (n : Nat) : Prop :=
  ∃ (es : Array MapEntry) (clock : Nat) (L : List (K × Value)), w.heap[b]? = some (.map es clock) ∧ es.toList.map (fun e => (e.key, e.val)) = L.map (fun p => (enc p.1, p.2)) ∧ (∀ k, f k = get k L) ∧ L.length = n ∧
    (es.toList.map (·.born)).Nodup ∧ (∀ e ∈ es.toList, e.born < clock) ∧ (L.map (·.1)).Nodup
theorem MapIs.made (w : World) (enc : K → Value) : MapIs (w.alloc (.map #[] 0)) w.heap.size enc (fun _ => none) 0 :=
  ⟨#[], 0, [], blk_new _ _, rfl, fun _ => rfl, rfl, by simp, by simp, by simp⟩
theorem MapIs.lt {w : World} {b : Nat} {enc : K → Value} {f : K → Option Value} {n : Nat} (h : MapIs w b enc f n) : b < w.heap.size := by
  obtain ⟨es, clock, L, hb, _⟩ := h
  exact heap_lt hb
theorem MapIs.at {w w' : World} {b : Nat} {enc : K → Value} {f : K → Option Value} {n : Nat} (h : MapIs w b enc f n) (k : w'.heap[b]? = w.heap[b]?) : MapIs w' b enc f n := by
  obtain ⟨es, clock, L, hb, r⟩ := h
  exact ⟨es, clock, L, k.trans hb, r⟩
theorem MapIs.ch {F : Nat → Prop} {w w' : World} {b : Nat} {enc : K → Value} {f : K → Option Value} {n : Nat} (h : MapIs w b enc f n) (c : Ch F w w') (hb : ¬ F b) : MapIs w' b enc f n := h.at (c.block b h.lt hb)
theorem MapIs.eqv {w : World} {b : Nat} {enc : K → Value} {f g : K → Option Value} {n : Nat} (h : MapIs w b enc f n) (e : ∀ k, f k = g k) : MapIs w b enc g n := by
  obtain ⟨es, clock, L, hb, h1, h2, r⟩ := h
  exact ⟨es, clock, L, hb, h1, fun k => (e k).symm.trans (h2 k), r⟩
variable {P : Program} {kt et t : TypeId} {enc : K → Value}
/-- m[k] -/
theorem MapIs.lookup {w : World} {b : Nat} {f : K → Option Value} {n : Nat} (h : MapIs w b enc f n) (hk : KeyIs P kt enc) (ht : P.underlying t = some (.map kt et)) {z : Value} (hz : (zeroValue et).run P w = .ok z w) (k : K) :
    (Instr.lookup t (.map (some b)) (enc k) false).run P w = .ok ((f k).getD z) w := by
  obtain ⟨es, clock, L, hb, h1, h2, _⟩ := h
  unfold Instr.lookup
  simp only [Sem.run_bind, run_underlying ht, Result.andThen_ok, MapKept.run_getObj_map hb, Sem.run_pure, hk.check, hk.find k w es.toList L h1, h2 k, get]
  cases hp : pos k L 0 with
  | none => simp [hz, Sem.run_bind, Sem.run_pure]
  | some p => simp [Sem.run_bind, Sem.run_pure]
/-- v, ok := m[k] -/
theorem MapIs.lookupOk {w : World} {b : Nat} {f : K → Option Value} {n : Nat} (h : MapIs w b enc f n) (hk : KeyIs P kt enc) (ht : P.underlying t = some (.map kt et)) {z : Value} (hz : (zeroValue et).run P w = .ok z w) (k : K) :
    (Instr.lookup t (.map (some b)) (enc k) true).run P w = .ok (.tuple #[(f k).getD z, .bool (f k).isSome]) w := by
  obtain ⟨es, clock, L, hb, h1, h2, _⟩ := h
  unfold Instr.lookup
  simp only [Sem.run_bind, run_underlying ht, Result.andThen_ok, MapKept.run_getObj_map hb, Sem.run_pure, hk.check, hk.find k w es.toList L h1, h2 k, get]
  cases hp : pos k L 0 with
  | none => simp [hz, Sem.run_bind, Sem.run_pure]
  | some p => simp [Sem.run_bind, Sem.run_pure]
/-- one value turned -/
def upd (f : K → Option Value) (k : K) (v : Value) : K → Option Value := fun x => if x = k then some v else f x
def drop (f : K → Option Value) (k : K) : K → Option Value := fun x => if x = k then none else f x
def more (f : K → Option Value) (k : K) (n : Nat) : Nat := if (f k).isSome then n else n + 1
def fewer (f : K → Option Value) (k : K) (n : Nat) : Nat := if (f k).isSome then n - 1 else n
theorem get_append (x k : K) (v : Value) : ∀ L : List (K × Value), get k L = none → get x (L ++ [(k, v)]) = if x = k then some v else get x L
  | [], _ => by rw [List.nil_append, get_cons]
  | p :: L, h => by
    rw [get_cons] at h
    split at h
    · cases h
    · rename_i hk
      rw [List.cons_append, get_cons, get_cons, get_append x k v L h]
      by_cases h1 : x = p.1
      · rw [if_pos h1, if_pos h1, if_neg (fun e => hk (e.symm.trans h1))]
      · rw [if_neg h1, if_neg h1]
theorem get_set (x k : K) (v : Value) : ∀ (L : List (K × Value)) (i : Nat) (u : Value), pos k L 0 = some (i, u) → get x (L.set i (k, v)) = if x = k then some v else get x L
  | [], _, _, h => by cases h
  | p :: L, i, u, h => by
    unfold pos at h
    split at h
    · rename_i hk
      cases h
      rw [List.set_cons_zero, get_cons, get_cons, ← hk]
      split <;> rfl
    · rename_i hk
      rw [pos_shift] at h
      obtain ⟨q, hq, he⟩ := Option.map_eq_some_iff.1 h
      obtain ⟨j, w⟩ := q
      simp only [Prod.mk.injEq] at he
      obtain ⟨rfl, rfl⟩ := he
      rw [List.set_cons_succ, get_cons, get_cons, get_set x k v L j w hq]
      by_cases h1 : x = p.1
      · rw [if_pos h1, if_pos h1, if_neg (fun e => hk (e.symm.trans h1))]
      · rw [if_neg h1, if_neg h1]
theorem get_erase (x k : K) : ∀ (L : List (K × Value)) (i : Nat) (u : Value), (L.map (·.1)).Nodup → pos k L 0 = some (i, u) → get x (L.eraseIdx i) = if x = k then none else get x L
  | [], _, _, _, h => by cases h
  | p :: L, i, u, hn, h => by
    simp only [List.map_cons, List.nodup_cons] at hn
    unfold pos at h
    split at h
    · rename_i hk
      cases h
      rw [List.eraseIdx_cons_zero, get_cons]
      by_cases h1 : x = k
      · rw [if_pos h1]
        cases hg : pos x L 0 with
        | none => rw [get, hg]; rfl
        | some q =>
          exfalso
          obtain ⟨_, h2, _⟩ := pos_some x L 0 q.1 q.2 hg
          have := List.mem_of_getElem? h2
          exact hn.1 (by rw [← hk, ← h1]; exact List.mem_map_of_mem (f := (·.1)) this)
      · rw [if_neg h1, if_neg (fun e => h1 (e.trans hk.symm))]
    · rename_i hk
      rw [pos_shift] at h
      obtain ⟨q, hq, he⟩ := Option.map_eq_some_iff.1 h
      obtain ⟨j, w⟩ := q
      simp only [Prod.mk.injEq] at he
      obtain ⟨rfl, rfl⟩ := he
      rw [List.eraseIdx_cons_succ, get_cons, get_cons, get_erase x k L j w hn.2 hq]
      by_cases h1 : x = p.1
      · rw [if_pos h1, if_pos h1, if_neg (fun e => hk (e.symm.trans h1))]
      · rw [if_neg h1, if_neg h1]
theorem pos_none (k : K) : ∀ (L : List (K × Value)) (i : Nat), pos k L i = none → ∀ p ∈ L, p.1 ≠ k
  | [], _, _, _, h => by cases h
  | p :: L, i, h, q, hq => by
    unfold pos at h
    split at h
    · cases h
    · rename_i hk
      rcases List.mem_cons.1 hq with rfl | hq
      · exact fun e => hk e.symm
      · exact pos_none k L (i + 1) h q hq
theorem ch_setBlock {w : World} {b : Nat} {es : Array MapEntry} {c : Nat} (hb : w.heap[b]? = some (.map es c)) (o : Obj) : Ch (fun x => x = b) w (ChangeMaps.setBlock w b o) ∧ (ChangeMaps.setBlock w b o).heap.size = w.heap.size :=
  ⟨⟨rfl, rfl, rfl, by simp [ChangeMaps.setBlock], fun i _ hi => ChangeMaps.heap_setBlock_other hb _ hi⟩, by simp [ChangeMaps.setBlock]⟩
theorem modify_map {α β : Type} (es : Array α) (i : Nat) (g : α → α) (f : α → β) (h : i < es.size) : (es.modify i g).toList.map f = (es.toList.map f).set i (f (g es[i])) := by
  apply List.ext_getElem?
  intro j
  rw [List.getElem?_map, List.getElem?_set, Array.getElem?_toList, Array.getElem?_modify]
  simp only [List.length_map, Array.length_toList, List.getElem?_map, Array.getElem?_toList]
  by_cases hj : i = j
  · subst hj; simp [h]
  · simp [hj]
/-- m[k] = v -/
theorem MapIs.update {w : World} {b : Nat} {f : K → Option Value} {n : Nat} (h : MapIs w b enc f n) (hk : KeyIs P kt enc) (ht : P.underlying t = some (.map kt et)) (k : K) (v : Value) :
    ∃ w', (Instr.mapUpdate t (.map (some b)) (enc k) v).run P w = .ok () w' ∧ MapIs w' b enc (upd f k v) (more f k n) ∧ Ch (fun x => x = b) w w' ∧ w'.heap.size = w.heap.size := by
  obtain ⟨es, clock, L, hb, h1, h2, h3, h4, h5, h6⟩ := h
  cases hp : pos k L 0 with
  | none =>
    refine ⟨ChangeMaps.setBlock w b (.map (es.push { key := enc k, val := v, born := clock }) (clock + 1)), ?_, ⟨_, _, L ++ [(k, v)], ChangeMaps.heap_setBlock_same hb _, by simp [h1], fun x => ?_, ?_, ?_, ?_, nodup_push h6 (pos_none k L 0 hp)⟩, (ch_setBlock hb _).1, (ch_setBlock hb _).2⟩
    · unfold Instr.mapUpdate
      simp only [Sem.run_bind, run_underlying ht, Result.andThen_ok, MapKept.run_getObj_map hb, hk.check, hk.find k w es.toList L h1, hp, MapKept.run_setObj_map _ hb]
      rfl
    · rw [upd, get_append x k v L (by rw [get, hp]; rfl), h2]
    · rw [more, h2, get, hp]; simp [h3]
    · simp only [Array.toList_push, List.map_append, List.map_cons, List.map_nil]
      refine List.nodup_append.2 ⟨h4, by simp, fun a ha c hc e => ?_⟩
      obtain ⟨x, hx, rfl⟩ := List.mem_map.1 ha
      have := h5 x hx
      simp at hc
      omega
    · intro e he
      simp only [Array.toList_push, List.mem_append, List.mem_singleton] at he
      rcases he with he | rfl
      · have := h5 e he; omega
      · show clock < clock + 1; omega
  | some q =>
    obtain ⟨i, u⟩ := q
    obtain ⟨_, hL, _⟩ := pos_some k L 0 i u hp
    simp only [Nat.sub_zero] at hL
    have hlen : es.size = L.length := by have := congrArg List.length h1; simpa using this
    have hi : i < es.size := by rw [hlen]; exact (List.getElem?_eq_some_iff.1 hL).1
    have hkey : es[i].key = enc k := by
      have := congrArg (fun l => l[i]?) h1
      simp only [List.getElem?_map, hL, Array.getElem?_toList, Array.getElem?_eq_getElem hi, Option.map_some, Option.some.injEq, Prod.mk.injEq] at this
      exact this.1
    refine ⟨ChangeMaps.setBlock w b (.map (es.modify i fun e => { e with key := enc k, val := v }) clock), ?_, ⟨_, _, L.set i (k, v), ChangeMaps.heap_setBlock_same hb _, ?_, fun x => ?_, ?_, ?_, ?_, by rw [keys_set hL]; exact h6⟩, (ch_setBlock hb _).1, (ch_setBlock hb _).2⟩
    · unfold Instr.mapUpdate
      simp only [Sem.run_bind, run_underlying ht, Result.andThen_ok, MapKept.run_getObj_map hb, hk.check, hk.find k w es.toList L h1, hp, Array.getElem?_eq_getElem hi, Option.map_some, Option.getD_some, hkey, Instr.keyThatStays, hk.same, if_true, Sem.run_pure, MapKept.run_setObj_map _ hb]
      rfl
    · rw [modify_map _ _ _ _ hi, h1, List.map_set]
    · rw [upd, get_set x k v L i u hp, h2]
    · rw [more, h2, get, hp]; simp [h3]
    · rw [modify_map _ _ _ _ hi]
      rw [show (es.toList.map (·.born)).set i es[i].born = es.toList.map (·.born) from ?_]
      · exact h4
      · apply List.ext_getElem?
        intro j
        rw [List.getElem?_set]
        by_cases hj : i = j
        · subst hj; simp [hi]
        · simp [hj]
    · intro e he
      obtain ⟨j, hj⟩ := List.mem_iff_getElem?.1 he
      rw [Array.getElem?_toList, Array.getElem?_modify] at hj
      split at hj
      · obtain ⟨x, hx, rfl⟩ := Option.map_eq_some_iff.1 hj
        exact h5 x (List.mem_of_getElem? (by rw [Array.getElem?_toList]; exact hx))
      · exact h5 e (List.mem_of_getElem? (by rw [Array.getElem?_toList]; exact hj))
theorem findIdx_born {es : Array MapEntry} (hn : (es.toList.map (·.born)).Nodup) {i : Nat} (hi : i < es.size) : es.findIdx? (fun e => (e.born : Int) == ((es[i].born : Nat) : Int)) = some i := by
  rw [Array.findIdx?_eq_some_iff_getElem]
  refine ⟨hi, by simp, fun j hj => ?_⟩
  simp only [beq_iff_eq, Int.natCast_inj]
  intro e
  have hj' : j < es.size := by omega
  have e1 : (es.toList.map (·.born))[j]'(by simpa using hj') = (es.toList.map (·.born))[i]'(by simpa using hi) := by simpa using e
  exact List.pairwise_iff_getElem.1 hn j i _ _ hj e1
/-- m[k] op= v, and m[k], .. = v: the entry first, then the store -/
theorem MapIs.entry {w : World} {b : Nat} {f : K → Option Value} {n : Nat} (h : MapIs w b enc f n) (hk : KeyIs P kt enc) (ht : P.underlying t = some (.map kt et)) {z : Value} (hz : (zeroValue et).run P w = .ok z w) (k : K) :
    ∃ (c : Int) (w1 : World), (Instr.mapEntry t (.map (some b)) (enc k)).run P w = .ok (.tuple #[(f k).getD z, .int .i64 c]) w1 ∧ Ch (fun x => x = b) w w1 ∧ w1.heap.size = w.heap.size ∧
      ∀ (w2 : World) (v : Value), w2.heap[b]? = w1.heap[b]? → ∃ w3, (Instr.entryStore t (.map (some b)) (.int .i64 c) v).run P w2 = .ok () w3 ∧ MapIs w3 b enc (upd f k v) (more f k n) ∧ Ch (fun x => x = b) w2 w3 ∧ w3.heap.size = w2.heap.size := by
  obtain ⟨es, clock, L, hb, h1, h2, h3, h4, h5, h6⟩ := h
  cases hp : pos k L 0 with
  | none =>
    refine ⟨clock, ChangeMaps.setBlock w b (.map (es.push { key := enc k, val := z, born := clock }) (clock + 1)), ?_, (ch_setBlock hb _).1, (ch_setBlock hb _).2, fun w2 v hw2 => ?_⟩
    · unfold Instr.mapEntry
      simp only [Sem.run_bind, run_underlying ht, Result.andThen_ok, MapKept.run_getObj_map hb, hk.check, hk.find k w es.toList L h1, hp, hz, MapKept.run_setObj_map _ hb, h2 k, get]
      rfl
    · rw [ChangeMaps.heap_setBlock_same hb _] at hw2
      have hnd : ((es.push { key := enc k, val := z, born := clock }).toList.map (·.born)).Nodup := by
        simp only [Array.toList_push, List.map_append, List.map_cons, List.map_nil]
        refine List.nodup_append.2 ⟨h4, by simp, fun a ha c hc e => ?_⟩
        obtain ⟨x, hx, rfl⟩ := List.mem_map.1 ha
        have := h5 x hx
        simp at hc
        omega
      have hix := findIdx_born hnd (i := es.size) (by simp)
      simp only [Array.getElem_push_eq] at hix
      have hmod : (es.push { key := enc k, val := z, born := clock }).modify es.size (fun e => { e with val := v }) = es.push { key := enc k, val := v, born := clock } := by
        apply Array.ext
        · simp
        · intro j hj1 hj2
          rw [Array.getElem_modify]
          simp only [Array.size_push] at hj2
          by_cases hj : es.size = j
          · subst hj; simp
          · have : j < es.size := by omega
            simp [hj, Array.getElem_push_lt this]
      refine ⟨ChangeMaps.setBlock w2 b (.map (es.push { key := enc k, val := v, born := clock }) (clock + 1)), ?_, ⟨_, _, L ++ [(k, v)], ChangeMaps.heap_setBlock_same hw2 _, by simp [h1], fun x => ?_, ?_, ?_, ?_, nodup_push h6 (pos_none k L 0 hp)⟩, (ch_setBlock hw2 _).1, (ch_setBlock hw2 _).2⟩
      · unfold Instr.entryStore
        simp only [Sem.run_bind, Result.andThen_ok, MapKept.run_getObj_map hw2, asInt, asIntOf, Sem.run_pure, hix, hmod, MapKept.run_setObj_map _ hw2]
        rfl
      · rw [upd, get_append x k v L (by rw [get, hp]; rfl), h2]
      · rw [more, h2, get, hp]; simp [h3]
      · have := hnd
        simp only [Array.toList_push, List.map_append, List.map_cons, List.map_nil] at this ⊢
        exact this
      · intro e he
        simp only [Array.toList_push, List.mem_append, List.mem_singleton] at he
        rcases he with he | rfl
        · have := h5 e he; omega
        · show clock < clock + 1; omega
  | some q =>
    obtain ⟨i, u⟩ := q
    obtain ⟨_, hL, _⟩ := pos_some k L 0 i u hp
    simp only [Nat.sub_zero] at hL
    have hlen : es.size = L.length := by have := congrArg List.length h1; simpa using this
    have hi : i < es.size := by rw [hlen]; exact (List.getElem?_eq_some_iff.1 hL).1
    have hkv : es[i].key = enc k ∧ es[i].val = u := by
      have := congrArg (fun l => l[i]?) h1
      simp only [List.getElem?_map, hL, Array.getElem?_toList, Array.getElem?_eq_getElem hi, Option.map_some, Option.some.injEq, Prod.mk.injEq] at this
      exact this
    have hsame : ({ es[i] with key := enc k } : MapEntry) = es[i] := by rw [← hkv.1]
    have hid : (es.modify i fun e => { e with key := enc k }) = es := by
      apply Array.ext
      · simp
      · intro j hj1 hj2
        rw [Array.getElem_modify]
        by_cases hj : i = j
        · subst hj
          rw [if_pos rfl]; exact hsame
        · rw [if_neg hj]
    refine ⟨es[i].born, ChangeMaps.setBlock w b (.map es clock), ?_, (ch_setBlock hb _).1, (ch_setBlock hb _).2, fun w2 v hw2 => ?_⟩
    · unfold Instr.mapEntry
      simp only [Sem.run_bind, run_underlying ht, Result.andThen_ok, MapKept.run_getObj_map hb, hk.check, hk.find k w es.toList L h1, hp, Array.getElem?_eq_getElem hi, Option.map_some, Option.getD_some, hkv.1, Instr.keyThatStays, hk.same, if_true, Sem.run_pure, hid, MapKept.run_setObj_map _ hb, h2 k, get]
      rfl
    · rw [ChangeMaps.heap_setBlock_same hb _] at hw2
      have hix := findIdx_born h4 hi
      refine ⟨ChangeMaps.setBlock w2 b (.map (es.modify i fun e => { e with val := v }) clock), ?_, ⟨_, _, L.set i (k, v), ChangeMaps.heap_setBlock_same hw2 _, ?_, fun x => ?_, ?_, ?_, ?_, by rw [keys_set hL]; exact h6⟩, (ch_setBlock hw2 _).1, (ch_setBlock hw2 _).2⟩
      · unfold Instr.entryStore
        simp only [Sem.run_bind, Result.andThen_ok, MapKept.run_getObj_map hw2, asInt, asIntOf, Sem.run_pure, hix, MapKept.run_setObj_map _ hw2]
        rfl
      · rw [modify_map _ _ _ _ hi, h1, List.map_set, hkv.1]
      · rw [upd, get_set x k v L i u hp, h2]
      · rw [more, h2, get, hp]; simp [h3]
      · rw [modify_map _ _ _ _ hi]
        rw [show (es.toList.map (·.born)).set i es[i].born = es.toList.map (·.born) from ?_]
        · exact h4
        · apply List.ext_getElem?
          intro j
          rw [List.getElem?_set]
          by_cases hj : i = j
          · subst hj; simp [hi]
          · simp [hj]
      · intro e he
        obtain ⟨j, hj⟩ := List.mem_iff_getElem?.1 he
        rw [Array.getElem?_toList, Array.getElem?_modify] at hj
        split at hj
        · obtain ⟨x, hx, rfl⟩ := Option.map_eq_some_iff.1 hj
          exact h5 x (List.mem_of_getElem? (by rw [Array.getElem?_toList]; exact hx))
        · exact h5 e (List.mem_of_getElem? (by rw [Array.getElem?_toList]; exact hj))
/-- len(m) -/
theorem MapIs.len {w : World} {b : Nat} {f : K → Option Value} {n : Nat} (h : MapIs w b enc f n) (ht : P.underlying t = some (.map kt et)) (ty : TypeId) :
    (Builtin.len_ #[t] ty #[.map (some b)]).run P w = .ok (.int .i64 n) w := by
  obtain ⟨es, clock, L, hb, h1, h2, h3, _⟩ := h
  have hlen : es.size = n := by have := congrArg List.length h1; simp at this; omega
  unfold Builtin.len_
  simp [run_underlying ht, MapKept.run_getObj_map hb, hlen, goInt, Result.andThen]
/-- delete(m, k) -/
theorem MapIs.delete {w : World} {b : Nat} {f : K → Option Value} {n : Nat} (h : MapIs w b enc f n) (hk : KeyIs P kt enc) (ht : P.underlying t = some (.map kt et)) (u ty : TypeId) (k : K) :
    ∃ w', (Builtin.delete_ #[t, u] ty #[.map (some b), enc k]).run P w = .ok (.tuple #[]) w' ∧ MapIs w' b enc (drop f k) (fewer f k n) ∧ Ch (fun x => x = b) w w' ∧ w'.heap.size = w.heap.size := by
  obtain ⟨es, clock, L, hb, h1, h2, h3, h4, h5, h6⟩ := h
  have hlen : es.size = L.length := by have := congrArg List.length h1; simpa using this
  cases hp : pos k L 0 with
  | none =>
    refine ⟨ChangeMaps.setBlock w b (.map es clock), ?_, ⟨_, _, L, ChangeMaps.heap_setBlock_same hb _, h1, fun x => ?_, ?_, h4, h5, h6⟩, (ch_setBlock hb _).1, (ch_setBlock hb _).2⟩
    · unfold Builtin.delete_
      simp [run_underlying ht, MapKept.run_getObj_map hb, hk.check, hk.find k w es.toList L h1, hp, MapKept.run_setObj_map _ hb, Result.andThen]
      rfl
    · unfold drop
      split
      · rename_i e; rw [e, get, hp]; rfl
      · exact h2 x
    · rw [fewer, h2, get, hp]; simp [h3]
  | some q =>
    obtain ⟨i, v0⟩ := q
    obtain ⟨_, hL, _⟩ := pos_some k L 0 i v0 hp
    simp only [Nat.sub_zero] at hL
    have hi : i < es.size := by rw [hlen]; exact (List.getElem?_eq_some_iff.1 hL).1
    have he : (es.eraseIdxIfInBounds i).toList = es.toList.eraseIdx i := by
      unfold Array.eraseIdxIfInBounds
      rw [dif_pos hi]; simp
    refine ⟨ChangeMaps.setBlock w b (.map (es.eraseIdxIfInBounds i) clock), ?_, ⟨_, _, L.eraseIdx i, ChangeMaps.heap_setBlock_same hb _, ?_, fun x => ?_, ?_, ?_, ?_, ?_⟩, (ch_setBlock hb _).1, (ch_setBlock hb _).2⟩
    · unfold Builtin.delete_
      simp [run_underlying ht, MapKept.run_getObj_map hb, hk.check, hk.find k w es.toList L h1, hp, MapKept.run_setObj_map _ hb, Result.andThen]
      rfl
    · rw [he, ChangeMaps.map_eraseIdx, h1, ChangeMaps.map_eraseIdx]
    · rw [drop, get_erase x k L i v0 h6 hp, h2]
    · rw [fewer, h2, get, hp, List.length_eraseIdx_of_lt (by omega)]; simp [h3]
    · rw [he, ChangeMaps.map_eraseIdx]
      exact h4.sublist (List.eraseIdx_sublist _ _)
    · intro e hm
      rw [he] at hm
      exact h5 e ((List.eraseIdx_sublist _ _).subset hm)
    · rw [ChangeMaps.map_eraseIdx]
      exact h6.sublist (List.eraseIdx_sublist _ _)
end
/-- m[k] = v at the operation, its world under a letter -/
theorem wpList_mapUpdate_ex {P : Program} (w : World) {ops : Array Oper} {rest : List Oper} {o : Oper} {a : Act} {Q : Exit → Act → World → Prop} (hg : o.guard = none) (m x v : Operand) (t : TypeId) (hop : o.op = Op.mapUpdate t m x v)
    (mv key val : Value) (hm : a.eval m = mv) (hx : a.eval x = key) (hv : a.eval v = val) {R : World → Prop} (hr : ∃ w', (Instr.mapUpdate t mv key val).run P w = .ok () w' ∧ R w')
    (hK : ∀ w', R w' → wpList P ops Q rest (a.put o.dst undef) w') : wpList P ops Q (o :: rest) a w := by
  refine wpList_plain hg fun K' hK' => ?_
  obtain ⟨w', hrun, r1⟩ := hr
  unfold Oper.wp
  simp [execOp, hop, hm, hx, hv, hrun, Result.andThen]
  exact hK' _ _ (hK w' r1)
/-! ### keys that are numbers -/
abbrev encI (k : Int) : Value := .int .i64 k
theorem keyIs_int {P : Program} {t : TypeId} (ht : P.underlying t = some (.int .i64)) : KeyIs P t encI where
  check := fun k e w => by
    show (Instr.checkKey e (9999 + 1) t (.int .i64 k)).run P w = _
    generalize 9999 = d
    unfold Instr.checkKey
    simp [Sem.run_bind, run_underlying ht, Sem.run_pure, Result.andThen]
  find := fun k w es L h => by
    have key : ∀ (es : List MapEntry) (L : List (Int × Value)) (i : Nat), es.map (fun e => (e.key, e.val)) = L.map (fun p => (encI p.1, p.2)) → Instr.findNow (.int .i64) (.int .i64 k) es i = some (pos k L i) := by
      intro es
      induction es with
      | nil =>
        intro L i h
        cases L with
        | nil => rfl
        | cons p L => simp at h
      | cons e es ih =>
        intro L i h
        cases L with
        | nil => simp at h
        | cons p L =>
          simp only [List.map_cons, List.cons.injEq, Prod.mk.injEq] at h
          obtain ⟨⟨h1, h2⟩, h3⟩ := h
          rw [Instr.findNow, h1, pos]
          by_cases hk : k = p.1
          · simp [Instr.sameNow, hk, h2]
          · have hb : (k == p.1) = false := by simpa using hk
            simp [Instr.sameNow, hk, hb, ih L (i + 1) h3]
    unfold Instr.findKey
    simp only [Sem.run_bind, run_underlying ht, Result.andThen_ok, key es L 0 h, Sem.run_pure]
  same := fun k => by
    show Instr.sameBits (9999 + 1) (.int .i64 k) (.int .i64 k) = true
    generalize 9999 = d
    simp [Instr.sameBits]
end Go.Proofs.YtiamohfpohjdpaaDoor
