/- A ROPE IN MEMORY: Insert. -/
import Derived.Test.YtohpablkgfkelaaFRopeSplit2
namespace Go.Proofs.Ytohpablkgfkelaa
open Go.RowKit Go.Joins
set_option linter.unusedSimpArgs false
set_option linter.unusedVariables false

/-- a rope, some run of which may be empty -/
structure Rope0 (w : World) (r wb hb : Nat) (rs : Value) (G : List RunG) (hid : St → Bool) : Prop where
  top : w.heap[r]? = some (.cells #[rs, .map (some wb), .map (some hb), .int .i64 (cnt hid (flat G))] 98 (0, 0))
  runs : w.ownsRow 0 101 1 rs G.length (G.map fun g => ptr g.b)
  run : ∀ g ∈ G, w.heap[g.b]? = some (.cells #[g.sl, .int .i64 (cnt hid g.ks)] 103 (0, 0)) ∧ w.ownsRow 0 30 2 g.sl g.ks.length (stL g.ks)
  wh : MapIs w wb encS (whereF G) (flat G).length
  hd : MapIs w hb encS (hideF (flat G) hid) (flat G).length
  nodup : (flat G).Nodup
  apart : (foot r wb hb rs G).Nodup
  short : ∀ g ∈ G, g.ks.length ≤ 32
theorem RopeAt.to0 {w : World} {r wb hb : Nat} {rs : Value} {G : List RunG} {hid : St → Bool} (h : RopeAt w r wb hb rs G hid) (hs : ∀ g ∈ G, g.ks.length ≤ 32) : Rope0 w r wb hb rs G hid :=
  ⟨h.top, h.runs, h.run, h.wh, h.hd, h.nodup, h.apart, hs⟩
def putG (G : List RunG) (i : Nat) (a : RunG) : List RunG := G.take i ++ (a :: G.drop (i + 1))
theorem put_self {G : List RunG} {i : Nat} (hi : i < G.length) : G = putG G i G[i] := by
  unfold putG
  rw [← List.drop_eq_getElem_cons hi, List.take_append_drop]
theorem put_mem {G : List RunG} {i : Nat} (hi : i < G.length) {a g : RunG} : g ∈ putG G i a ↔ g = a ∨ ∃ (m : Nat) (hm : m < G.length), m ≠ i ∧ g = G[m] := by
  unfold putG
  simp only [List.mem_append, List.mem_cons]
  constructor
  · rintro (h | h | h)
    · obtain ⟨m, hm, rfl⟩ := List.mem_take_iff_getElem.1 h
      exact Or.inr ⟨m, by omega, by omega, rfl⟩
    · exact Or.inl h
    · obtain ⟨m, hm, rfl⟩ := List.mem_iff_getElem.1 h
      rw [List.length_drop] at hm
      exact Or.inr ⟨i + 1 + m, by omega, by omega, by rw [List.getElem_drop]⟩
  · rintro (h | ⟨m, hm, hne, rfl⟩)
    · exact Or.inr (Or.inl h)
    · by_cases hlt : m < i
      · exact Or.inl (List.mem_take_iff_getElem.2 ⟨m, by omega, rfl⟩)
      · refine Or.inr (Or.inr (List.mem_iff_getElem.2 ⟨m - (i + 1), by rw [List.length_drop]; omega, ?_⟩))
        rw [List.getElem_drop]; congr 1; omega
theorem put_flat {G : List RunG} {i : Nat} (hi : i < G.length) {a : RunG} {k : St} {o : Nat} (ho : o ≤ G[i].ks.length) (h : a.ks = G[i].ks.take o ++ [k] ++ G[i].ks.drop o) :
    flat (putG G i a) = (flat G).take (offs G i + o) ++ k :: (flat G).drop (offs G i + o) := by
  rw [take_at hi o ho]
  have e : (flat G).drop (offs G i + o) = G[i].ks.drop o ++ flat (G.drop (i + 1)) := by
    conv => lhs; rw [flat_at G i hi]
    rw [← flat_take_length, List.drop_append, List.drop_eq_nil_of_le (by omega), List.nil_append, Nat.add_sub_cancel_left, List.drop_append_of_le_length ho]
  rw [e]
  unfold putG
  rw [flat_append]
  show flat (G.take i) ++ (a.ks ++ flat (G.drop (i + 1))) = _
  rw [h]
  simp
theorem put_blocks {G : List RunG} {i : Nat} (hi : i < G.length) {a : RunG} (ha : a.b = G[i].b) : (putG G i a).map (fun g => ptr g.b) = G.map fun g => ptr g.b := by
  refine Eq.trans ?_ (congrArg (List.map fun g : RunG => ptr g.b) (put_self hi)).symm
  unfold putG
  simp only [List.map_append, List.map_cons, ha]
theorem put_length {G : List RunG} {i : Nat} (hi : i < G.length) {a : RunG} : (putG G i a).length = G.length := by
  unfold putG; simp; omega
theorem ins_mem {L : List St} {k : St} {n : Nat} {x : St} : x ∈ L.take n ++ k :: L.drop n ↔ x = k ∨ x ∈ L := by
  constructor
  · intro h
    rcases List.mem_append.1 h with h | h
    · exact Or.inr (List.mem_of_mem_take h)
    · rcases List.mem_cons.1 h with h | h
      · exact Or.inl h
      · exact Or.inr (List.mem_of_mem_drop h)
  · rintro (h | h)
    · exact List.mem_append.2 (Or.inr (by simp [h]))
    · rw [← List.take_append_drop n L] at h
      rcases List.mem_append.1 h with h | h
      · exact List.mem_append.2 (Or.inl h)
      · exact List.mem_append.2 (Or.inr (List.mem_cons_of_mem _ h))
theorem ins_nodup {L : List St} {k : St} {n : Nat} (h : L.Nodup) (hk : k ∉ L) : (L.take n ++ k :: L.drop n).Nodup := by
  have hp : (L.take n ++ k :: L.drop n).Perm (k :: L) := by
    have := List.perm_middle (a := k) (l₁ := L.take n) (l₂ := L.drop n)
    rwa [List.take_append_drop] at this
  rw [hp.nodup_iff]
  exact List.nodup_cons.2 ⟨hk, h⟩
theorem ins_length' {L : List St} {k : St} {n : Nat} (hn : n ≤ L.length) : (L.take n ++ k :: L.drop n).length = L.length + 1 := by simp; omega
theorem put_where {G : List RunG} {i : Nat} (hi : i < G.length) (hn : (flat G).Nodup) {a : RunG} {k : St} {o : Nat} (ho : o ≤ G[i].ks.length) (h : a.ks = G[i].ks.take o ++ [k] ++ G[i].ks.drop o) (ha : a.b = G[i].b) (hk : k ∉ flat G) (x : St) :
    upd (whereF G) k (ptr G[i].b) x = whereF (putG G i a) x := by
  have hf := put_flat hi ho h
  have hn' : (flat (putG G i a)).Nodup := by rw [hf]; exact ins_nodup hn hk
  unfold upd
  by_cases hx : x = k
  · rw [if_pos hx, whereF_mem hn' ((put_mem hi).2 (Or.inl rfl)) (by rw [h, hx]; simp), ha]
  · rw [if_neg hx]
    by_cases hxf : x ∈ flat G
    · obtain ⟨m, hm, hxm⟩ := mem_run hxf
      rw [whereF_some hn hm hxm]
      by_cases hmi : m = i
      · subst hmi
        have hxa : x ∈ a.ks := by
          rw [h, List.append_assoc]
          exact ins_mem.2 (Or.inr hxm)
        rw [whereF_mem hn' ((put_mem hi).2 (Or.inl rfl)) hxa, ha]
      · rw [whereF_mem hn' ((put_mem hi).2 (Or.inr ⟨m, hm, hmi, rfl⟩)) hxm]
    · rw [whereF_none hxf, whereF_none (by rw [hf]; exact fun hm => (ins_mem.1 hm).elim hx hxf)]
theorem put_hides {L : List St} {hid : St → Bool} {k : St} {n : Nat} (x : St) : upd (hideF L hid) k (.bool true) x = hideF (L.take n ++ k :: L.drop n) (setH hid k true) x := by
  unfold upd hideF setH
  by_cases hx : x = k
  · rw [if_pos hx, if_pos (ins_mem.2 (Or.inl hx)), if_pos hx]
  · rw [if_neg hx]
    by_cases hL : x ∈ L
    · rw [if_pos hL, if_pos (ins_mem.2 (Or.inr hL)), if_neg hx]
    · rw [if_neg hL, if_neg (fun h => (ins_mem.1 h).elim hx hL)]
theorem cnt_ins {L : List St} {hid : St → Bool} {k : St} {n : Nat} (hk : k ∉ L) : cnt (setH hid k true) (L.take n ++ k :: L.drop n) = cnt hid L := by
  rw [show k :: L.drop n = [k] ++ L.drop n from rfl, cnt_append, cnt_append, cnt_one, cnt_other (fun h => hk (List.mem_of_mem_take h)), cnt_other (fun h => hk (List.mem_of_mem_drop h))]
  have : setH hid k true k = true := by simp [setH]
  rw [this]
  simp only [if_true, Nat.zero_add]
  rw [← cnt_append, List.take_append_drop]
theorem put_foot {r wb hb g' : Nat} {rs : Value} {G : List RunG} {i : Nat} (hi : i < G.length) {a : RunG} {S : Nat} (ha : a.b = G[i].b) (ha2 : a.sl.ownBlock = some g')
    (hn : (foot r wb hb rs G).Nodup) (hlt : ∀ x ∈ foot r wb hb rs G, x < S) (hg' : G[i].sl.ownBlock = some g' ∨ S ≤ g') :
    (foot r wb hb rs (putG G i a)).Nodup ∧ ∀ x ∈ foot r wb hb rs (putG G i a), x ∈ foot r wb hb rs G ∨ x = g' := by
  have e1 : G.flatMap (fun g => g.b :: g.sl.ownBlock.toList) = (G.take i).flatMap (fun g => g.b :: g.sl.ownBlock.toList) ++ ((G[i].b :: G[i].sl.ownBlock.toList) ++ (G.drop (i + 1)).flatMap (fun g => g.b :: g.sl.ownBlock.toList)) := by
    have e2 := congrArg (fun G => List.flatMap (fun g : RunG => g.b :: g.sl.ownBlock.toList) G) (put_self hi)
    unfold putG at e2
    simp only [List.flatMap_append, List.flatMap_cons] at e2
    exact e2
  have e2 : (putG G i a).flatMap (fun g => g.b :: g.sl.ownBlock.toList) = (G.take i).flatMap (fun g => g.b :: g.sl.ownBlock.toList) ++ ((G[i].b :: [g']) ++ (G.drop (i + 1)).flatMap (fun g => g.b :: g.sl.ownBlock.toList)) := by
    unfold putG
    simp only [List.flatMap_append, List.flatMap_cons, ha, ha2]
    rfl
  have hold : foot r wb hb rs G = r :: wb :: hb :: (rs.ownBlock.toList ++ ((G.take i).flatMap (fun g => g.b :: g.sl.ownBlock.toList) ++ ((G[i].b :: G[i].sl.ownBlock.toList) ++ (G.drop (i + 1)).flatMap (fun g => g.b :: g.sl.ownBlock.toList)))) := by
    unfold foot; rw [e1]
  have hnew : foot r wb hb rs (putG G i a) = r :: wb :: hb :: (rs.ownBlock.toList ++ ((G.take i).flatMap (fun g => g.b :: g.sl.ownBlock.toList) ++ ((G[i].b :: [g']) ++ (G.drop (i + 1)).flatMap (fun g => g.b :: g.sl.ownBlock.toList)))) := by
    unfold foot; rw [e2]
  rw [hold] at hn hlt ⊢
  rw [hnew]
  generalize (G.take i).flatMap (fun g => g.b :: g.sl.ownBlock.toList) = P1 at *
  generalize (G.drop (i + 1)).flatMap (fun g => g.b :: g.sl.ownBlock.toList) = P3 at *
  generalize rs.ownBlock.toList = P0 at *
  generalize G[i].b = gb at *
  cases hs : G[i].sl.ownBlock with
  | some z =>
    rw [hs] at hn hlt hg'
    by_cases hz : z = g'
    · subst hz
      exact ⟨hn, fun x hx => Or.inl hx⟩
    · have hS : S ≤ g' := by
        rcases hg' with e | e
        · exact absurd (Option.some.inj e) hz
        · exact e
      have hp : (r :: wb :: hb :: (P0 ++ (P1 ++ (gb :: [g'] ++ P3)))).Perm (g' :: r :: wb :: hb :: (P0 ++ (P1 ++ (gb :: P3)))) := by
        rw [List.perm_iff_count]; intro q
        simp only [List.count_append, List.count_cons, List.count_nil, List.cons_append]; omega
      have hp2 : (r :: wb :: hb :: (P0 ++ (P1 ++ (gb :: Option.toList (some z) ++ P3)))).Perm (z :: r :: wb :: hb :: (P0 ++ (P1 ++ (gb :: P3)))) := by
        rw [List.perm_iff_count]; intro q
        simp only [Option.toList_some, List.count_append, List.count_cons, List.count_nil, List.cons_append]; omega
      have hn2 := (List.nodup_cons.1 (hp2.nodup_iff.1 hn)).2
      refine ⟨hp.nodup_iff.2 (List.nodup_cons.2 ⟨fun hm => ?_, hn2⟩), fun x hx => ?_⟩
      · have := hlt g' (hp2.mem_iff.2 (List.mem_cons_of_mem _ hm))
        omega
      · rcases List.mem_cons.1 (hp.mem_iff.1 hx) with h | h
        · exact Or.inr h
        · exact Or.inl (hp2.mem_iff.2 (List.mem_cons_of_mem _ h))
  | none =>
    rw [hs] at hn hlt hg'
    have hS : S ≤ g' := by
      rcases hg' with e | e
      · cases e
      · exact e
    have hp : (r :: wb :: hb :: (P0 ++ (P1 ++ (gb :: [g'] ++ P3)))).Perm (g' :: r :: wb :: hb :: (P0 ++ (P1 ++ (gb :: Option.toList none ++ P3)))) := by
      rw [List.perm_iff_count]; intro q
      simp only [Option.toList_none, List.count_append, List.count_cons, List.count_nil, List.cons_append]; omega
    refine ⟨hp.nodup_iff.2 (List.nodup_cons.2 ⟨fun hm => ?_, hn⟩), fun x hx => ?_⟩
    · have := hlt g' hm
      omega
    · rcases List.mem_cons.1 (hp.mem_iff.1 hx) with h | h
      · exact Or.inr h
      · exact Or.inl h
theorem foot0_lt {w : World} {r wb hb : Nat} {rs : Value} {G : List RunG} {hid : St → Bool} (h : Rope0 w r wb hb rs G hid) : ∀ x ∈ foot r wb hb rs G, x < w.heap.size := by
  intro x hx
  unfold foot at hx
  simp only [List.mem_cons, List.mem_append] at hx
  rcases hx with rfl | rfl | rfl | hx | hx
  · exact heap_lt h.top
  · exact h.wh.lt
  · exact h.hd.lt
  · exact (h.runs.lt x (by simpa using hx)).2
  · obtain ⟨g, hg, hx⟩ := List.mem_flatMap.1 hx
    rcases List.mem_cons.1 hx with rfl | hx
    · exact heap_lt (h.run g hg).1
    · exact ((h.run g hg).2.lt x (by simpa using hx)).2
def insKs (ks : List St) (o : Nat) (k : St) : List St := ks.take o ++ [k] ++ ks.drop o
theorem insKs_length {ks : List St} {o : Nat} (k : St) (h : o ≤ ks.length) : (insKs ks o k).length = ks.length + 1 := by simp [insKs]; omega
theorem stL_app (a b : List St) : stL (a ++ b) = stL a ++ stL b := by simp [stL]
theorem stL_drop (ks : List St) (m : Nat) : stL (ks.drop m) = (stL ks).drop (m * 2) := by
  have h1 : stL (ks.take m) ++ stL (ks.drop m) = (stL ks).take (m * 2) ++ (stL ks).drop (m * 2) := by
    rw [← stL_app, List.take_append_drop, List.take_append_drop]
  have h2 := stL_take ks m
  rw [h2] at h1
  exact List.append_cancel_left h1
theorem insKs_ints (ks : List St) (o : Nat) (k : St) : (stL ks).take (o * 2) ++ [.int .i64 k.1, .int .i64 k.2] ++ (stL ks).drop (o * 2) = stL (insKs ks o k) := by
  unfold insKs
  rw [stL_app, stL_app, stL_take, stL_drop]
  rfl
/-- behind slices.Insert and the store of the new slice -/
structure MidS (w x : World) (G : List RunG) (hid : St → Bool) (i : Nat) (gb : Nat) (sl : Value) (ks : List St) (o : Nat) (k : St) (g' cap' : Nat) : Prop where
  ch : Ch (fun z => z = gb ∨ sl.ownBlock = some z) w x
  run : x.heap[gb]? = some (.cells #[.slice (some ⟨g', 0, none⟩) (ks.length + 1) cap', .int .i64 (cnt hid ks)] 103 (0, 0))
  own : x.ownsRow 0 30 2 (.slice (some ⟨g', 0, none⟩) (ks.length + 1) cap') (ks.length + 1) (stL (insKs ks o k))
  loc : sl.ownBlock = some g' ∨ w.heap.size ≤ g'
theorem mid_of {w x v : World} {r wb hb : Nat} {rs : Value} {G : List RunG} {hid : St → Bool} (h : Rope0 w r wb hb rs G hid) {i : Nat} (hi : i < G.length) {k : St} (hk : k ∉ flat G) {o : Nat} (ho : o ≤ G[i].ks.length) (hne : ∀ (m : Nat) (hm : m < G.length), m ≠ i → G[m].ks ≠ [])
    {g' cap' : Nat} (hm : MidS w x G hid i G[i].b G[i].sl G[i].ks o k g' cap') (cv : Ch (fun z => z = wb ∨ z = hb) x v)
    (m1 : MapIs v wb encS (upd (whereF G) k (ptr G[i].b)) (more (whereF G) k (flat G).length)) (m2 : MapIs v hb encS (upd (hideF (flat G) hid) k (.bool true)) (more (hideF (flat G) hid) k (flat G).length)) :
    RopeAt v r wb hb rs (putG G i ⟨G[i].b, .slice (some ⟨g', 0, none⟩) (G[i].ks.length + 1) cap', insKs G[i].ks o k⟩) (setH hid k true) ∧
      (∀ z ∈ foot r wb hb rs (putG G i ⟨G[i].b, .slice (some ⟨g', 0, none⟩) (G[i].ks.length + 1) cap', insKs G[i].ks o k⟩), z ∈ foot r wb hb rs G ∨ w.heap.size ≤ z) ∧
      Ch (fun z => z ∈ foot r wb hb rs G) w v ∧ flat (putG G i ⟨G[i].b, .slice (some ⟨g', 0, none⟩) (G[i].ks.length + 1) cap', insKs G[i].ks o k⟩) = (flat G).take (offs G i + o) ++ k :: (flat G).drop (offs G i + o) := by
  have A := apart_of h.apart
  have hgm := List.getElem_mem hi
  obtain ⟨a1, a2, a3, a4⟩ := A.run _ hgm
  have hlt := foot0_lt h
  have hrw := hlt r (by simp [foot])
  have hwbw := hlt wb (by simp [foot])
  have hhbw := hlt hb (by simp [foot])
  have hgw := hlt _ (mem_foot_run hgm).1
  have hksk : k ∉ G[i].ks := fun hh => hk (List.mem_flatMap.2 ⟨_, hgm, hh⟩)
  have ha0 : (⟨G[i].b, .slice (some ⟨g', 0, none⟩) (G[i].ks.length + 1) cap', insKs G[i].ks o k⟩ : RunG).ks = G[i].ks.take o ++ [k] ++ G[i].ks.drop o := rfl
  have hpf := put_flat hi ho ha0
  have hpl := put_length hi (a := ⟨G[i].b, .slice (some ⟨g', 0, none⟩) (G[i].ks.length + 1) cap', insKs G[i].ks o k⟩)
  have hpb := put_blocks hi (a := ⟨G[i].b, .slice (some ⟨g', 0, none⟩) (G[i].ks.length + 1) cap', insKs G[i].ks o k⟩) rfl
  have hft := put_foot (r := r) (wb := wb) (hb := hb) (rs := rs) hi (a := ⟨G[i].b, .slice (some ⟨g', 0, none⟩) (G[i].ks.length + 1) cap', insKs G[i].ks o k⟩) (S := w.heap.size) (g' := g') rfl rfl h.apart hlt hm.loc
  have hpw := put_where hi h.nodup ho ha0 rfl hk
  have hoL : offs G i + o ≤ (flat G).length := by
    have h1 := offs_succ G i hi
    have h2 := offs_le G (i + 1)
    omega
  have hkl : (insKs G[i].ks o k).length = G[i].ks.length + 1 := insKs_length k ho
  generalize hA : (⟨G[i].b, .slice (some ⟨g', 0, none⟩) (G[i].ks.length + 1) cap', insKs G[i].ks o k⟩ : RunG) = a at *
  have cwv : Ch (fun z => z = G[i].b ∨ G[i].sl.ownBlock = some z ∨ z = wb ∨ z = hb) w v :=
    (hm.ch.mono (G := fun z => z = G[i].b ∨ G[i].sl.ownBlock = some z ∨ z = wb ∨ z = hb) (fun z _ e => by
      rcases e with e | e
      · exact Or.inl e
      · exact Or.inr (Or.inl e))).trans cv (fun z _ e => Or.inr (Or.inr e))
  have hg'v : g' ≠ wb ∧ g' ≠ hb := by
    rcases hm.loc with e | e
    · obtain ⟨_, b2, b3, _⟩ := a4 g' e
      exact ⟨b2, b3⟩
    · exact ⟨by omega, by omega⟩
  refine ⟨⟨?_, ?_, ?_, ?_, ?_, ?_, hft.1, ?_, ?_⟩, fun z hz => ?_, cwv.mono (fun z _ e => ?_), hpf⟩
  · rw [cwv.at h.top (fun e => ?_), hpf, cnt_ins hk]
    rcases e with e | e | e | e
    · exact a1 e.symm
    · exact (a4 r e).1 rfl
    · exact A.rw e
    · exact A.rh e
  · rw [hpl, hpb]
    refine own_ch h.runs cwv (fun z hz e => ?_)
    obtain ⟨b1, b2, b3, b4⟩ := A.rs z hz
    rcases e with e | e | e | e
    · exact (b4 _ hgm).1 e
    · exact (b4 _ hgm).2 e
    · exact b2 e
    · exact b3 e
  · intro g hgc
    rcases (put_mem hi).1 hgc with rfl | ⟨m, hmm, hmi, rfl⟩
    · rw [← hA]
      refine ⟨?_, ?_⟩
      · rw [cv.at hm.run (fun e => e.elim a2 a3)]
        have : cnt (setH hid k true) (insKs G[i].ks o k) = cnt hid G[i].ks := by
          unfold insKs
          rw [List.append_assoc]
          exact cnt_ins hksk
        rw [this]
      · rw [hkl]
        exact own_ch hm.own cv (fun z hz e => by
          cases hz
          exact e.elim hg'v.1 hg'v.2)
    · have hmem := List.getElem_mem hmm
      obtain ⟨c1, c2, c3, c4⟩ := A.run _ hmem
      obtain ⟨n1, n2, n3⟩ := A.two m i hmm hi hmi
      have hkm : k ∉ G[m].ks := fun hh => hk (List.mem_flatMap.2 ⟨_, hmem, hh⟩)
      rw [cnt_other hkm]
      refine ⟨cwv.at (h.run _ hmem).1 (fun e => ?_), own_ch (h.run _ hmem).2 cwv (fun z hz e => ?_)⟩
      · rcases e with e | e | e | e
        · exact n1 e
        · exact (A.two i m hi hmm (fun e => hmi e.symm)).2.1 e
        · exact c2 e
        · exact c3 e
      · obtain ⟨q1, q2, q3, q4⟩ := c4 z hz
        rcases e with e | e | e | e
        · exact n2 (by rw [hz, e])
        · exact n3 z hz e
        · exact q2 e
        · exact q3 e
  · have e1 : more (whereF G) k (flat G).length = (flat (putG G i a)).length := by
      rw [hpf, ins_length' hoL]; unfold more; rw [whereF_none hk]; rfl
    rw [← e1]
    exact m1.eqv hpw
  · have e1 : more (hideF (flat G) hid) k (flat G).length = (flat (putG G i a)).length := by
      rw [hpf, ins_length' hoL]; unfold more hideF; rw [if_neg hk]; rfl
    rw [← e1, hpf]
    exact m2.eqv put_hides
  · rw [hpf]; exact ins_nodup h.nodup hk
  · intro g hgc
    rcases (put_mem hi).1 hgc with rfl | ⟨m, hmm, hmi, rfl⟩
    · rw [← hA]
      intro e
      have := congrArg List.length e
      rw [hkl, List.length_nil] at this; omega
    · exact hne m hmm hmi
  · intro g hgc
    rcases (put_mem hi).1 hgc with rfl | ⟨m, hmm, hmi, rfl⟩
    · rw [← hA]
      have := h.short _ hgm
      show (insKs G[i].ks o k).length ≤ 33
      omega
    · have := h.short _ (List.getElem_mem hmm); omega
  · rcases hft.2 z hz with e | e
    · exact Or.inl e
    · rcases hm.loc with e2 | e2
      · left; rw [e]; exact (mem_foot_run hgm).2 g' e2
      · right; omega
  · rcases e with e | e | e | e
    · rw [e]; exact (mem_foot_run hgm).1
    · exact (mem_foot_run hgm).2 z e
    · rw [e]; simp [foot]
    · rw [e]; simp [foot]
end Go.Proofs.Ytohpablkgfkelaa
