/- PARSE, AND THE REFERENCE's: what they answer of any text. -/
import Derived.Test.YtpkbkcjegbpifaaDoorDRefParse
import Derived.Test.YtpkbkcjegbpifaaDoorDNum
namespace Go.Proofs.YtpkbkcjegbpifaaDoor
open Go.RowKit Go.Lib
set_option linter.unusedSimpArgs false
set_option linter.unusedVariables false

theorem Tr.blk {W0 w : World} {L : List (Nat × Array Value × TypeId)} (h : Tr W0 w L) (b : Nat) (C : Array Value) (T : TypeId) (hm : (b, C, T) ∈ L) : w.heap[b]? = some (.cells C T (0, 0)) := (h.2 _ hm).2
theorem Tr.chg {W0 w w' : World} {L L' : List (Nat × Array Value × TypeId)} {ob : Nat} {C : Array Value} {T : TypeId} (h : Tr W0 w L) (hc : Ch (fun x => x = ob) w w') (hob : W0.heap.size ≤ ob) (hn : w'.heap[ob]? = some (.cells C T (0, 0)))
    (hL : ∀ p ∈ L', (p.1 ≠ ob ∧ p ∈ L) ∨ p = (ob, C, T)) : Tr W0 w' L' := by
  refine ⟨h.1.trans (hc.below h.1.size (fun x hx e => by omega)), fun p hp => ?_⟩
  rcases hL p hp with ⟨hne, hm⟩ | rfl
  · exact ⟨(h.2 p hm).1, hc.at (h.2 p hm).2 hne⟩
  · exact ⟨hob, hn⟩
abbrev Cuts (s a b : ByteArray) (f : Bool) : Prop := ∀ w, Calls Tryd.prog 15 #[.string s, .string ⟨#[46]⟩] w fun e w' => e = .returned (.tuple #[.string a, .string b, .bool f]) ∧ Below w.heap.size w w'
set_option maxHeartbeats 2000000 in
theorem parse_1 (s a b : ByteArray) (ha : a.size ≤ maxLen) (hb : b.size ≤ maxLen) (hcut : Cuts s a b false) (w : World) :
    Calls Tryd.prog 9 #[.string s] w fun en w' => en = .returned (.tuple #[st 0 0, .int .i64 12]) ∧ Below w.heap.size w w' := by
  have HA := Lib.hid ha
  have HB := Lib.hid hb
  have HC := Lib.hid hcut
  clear ha hb hcut
  have hg1 := fun xs ys x y w => run_guard .eql xs ys x y w (Or.inl rfl)
  have hg2 := fun xs ys x y w => run_guard .neq xs ys x y w (Or.inr rfl)
  have t0 := Tr.nil w
  go_enter Tryd.func9, Tryd.ntmps9
  go_wp2_with (go_at_call 15; with_reducible refine (HC.out _).mono ?_; rintro e w1 ⟨rfl, hb⟩; have t1 := Tr.later (W0 := w) (by repeat (first | with_reducible assumption | with_reducible apply Tr.alloc | with_reducible apply Tr.drew | with_reducible apply Tr.drewN | with_reducible apply Tr.ext | with_reducible apply Tr.other)) hb; have r1 := t1.rules; simp only [Rules, World.size_alloc, World.size_drew, World.size_setCell] at r1; clear hb)
  with_reducible refine (num_any _ HA.out _ true _ (t1.blk (w.heap.size + 1) #[.bool true] 4 (by simp))).mono ?_
  rintro e w2 ⟨rfl, hch, hok⟩
  have t2 := Tr.chg (L' := [(w.heap.size + 1, #[.bool (numOk a.data.toList true)], 4), (w.heap.size, #[.int .i64 0, .int .i64 0], 23)]) t1 hch (by omega) hok (by simp)
  clear hch hok t1 r1
  go_wp2_with fail
  with_reducible refine (num_any _ HB.out _ _ _ (t2.blk (w.heap.size + 1) #[.bool (numOk a.data.toList true)] 4 (by simp))).mono ?_
  rintro e w3 ⟨rfl, hch, hok⟩
  have t3 := Tr.chg (L' := [(w.heap.size + 1, #[.bool (numOk b.data.toList (numOk a.data.toList true))], 4), (w.heap.size, #[.int .i64 0, .int .i64 0], 23)]) t2 hch (by omega) hok (by simp)
  have r1 := t3.rules
  simp only [Rules] at r1
  clear hch hok t2
  go_wp2
  refine bodyPost_ret (v := .tuple #[st 0 0, .int .i64 12]) (by simp [results, Tryd.results9, go_sem, r1]) rfl ⟨rfl, ?_⟩
  exact (Tr.below (W0 := w) (by repeat' (first | with_reducible assumption | with_reducible apply Tr.alloc | with_reducible apply Tr.drew | with_reducible apply Tr.drewN | with_reducible apply Tr.ext | with_reducible apply Tr.other | with_reducible apply Tr.setN | exact Nat.le_refl _ | exact Nat.le_succ _)))
set_option maxHeartbeats 2000000 in
theorem parse_2 (s a b : ByteArray) (ha : a.size ≤ maxLen) (hb : b.size ≤ maxLen) (hcut : Cuts s a b true) (h2 : numOk b.data.toList (numOk a.data.toList true) = false) (w : World) :
    Calls Tryd.prog 9 #[.string s] w fun en w' => en = .returned (.tuple #[st 0 0, .int .i64 12]) ∧ Below w.heap.size w w' := by
  have HA := Lib.hid ha
  have HB := Lib.hid hb
  have HC := Lib.hid hcut
  clear ha hb hcut
  have hg1 := fun xs ys x y w => run_guard .eql xs ys x y w (Or.inl rfl)
  have hg2 := fun xs ys x y w => run_guard .neq xs ys x y w (Or.inr rfl)
  have t0 := Tr.nil w
  go_enter Tryd.func9, Tryd.ntmps9
  go_wp2_with (go_at_call 15; with_reducible refine (HC.out _).mono ?_; rintro e w1 ⟨rfl, hb⟩; have t1 := Tr.later (W0 := w) (by repeat (first | with_reducible assumption | with_reducible apply Tr.alloc | with_reducible apply Tr.drew | with_reducible apply Tr.drewN | with_reducible apply Tr.ext | with_reducible apply Tr.other)) hb; have r1 := t1.rules; simp only [Rules, World.size_alloc, World.size_drew, World.size_setCell] at r1; clear hb)
  with_reducible refine (num_any _ HA.out _ true _ (t1.blk (w.heap.size + 1) #[.bool true] 4 (by simp))).mono ?_
  rintro e w2 ⟨rfl, hch, hok⟩
  have t2 := Tr.chg (L' := [(w.heap.size + 1, #[.bool (numOk a.data.toList true)], 4), (w.heap.size, #[.int .i64 0, .int .i64 0], 23)]) t1 hch (by omega) hok (by simp)
  clear hch hok t1 r1
  go_wp2_with fail
  with_reducible refine (num_any _ HB.out _ _ _ (t2.blk (w.heap.size + 1) #[.bool (numOk a.data.toList true)] 4 (by simp))).mono ?_
  rintro e w3 ⟨rfl, hch, hok⟩
  have t3 := Tr.chg (L' := [(w.heap.size + 1, #[.bool (numOk b.data.toList (numOk a.data.toList true))], 4), (w.heap.size, #[.int .i64 0, .int .i64 0], 23)]) t2 hch (by omega) hok (by simp)
  have r1 := t3.rules
  simp only [Rules] at r1
  clear hch hok t2
  go_wp2
  refine bodyPost_ret (v := .tuple #[st 0 0, .int .i64 12]) (by simp [results, Tryd.results9, go_sem, r1]) rfl ⟨rfl, ?_⟩
  exact (Tr.below (W0 := w) (by repeat' (first | with_reducible assumption | with_reducible apply Tr.alloc | with_reducible apply Tr.drew | with_reducible apply Tr.drewN | with_reducible apply Tr.ext | with_reducible apply Tr.other | with_reducible apply Tr.setN | exact Nat.le_refl _ | exact Nat.le_succ _)))
set_option maxHeartbeats 2000000 in
theorem parse_3 (s a b : ByteArray) (ha : a.size ≤ maxLen) (hb : b.size ≤ maxLen) (hcut : Cuts s a b true) (h2 : numOk b.data.toList (numOk a.data.toList true) = true) (h3 : numV a.data.toList = 0) (h4 : numV b.data.toList = 0) (w : World) :
    Calls Tryd.prog 9 #[.string s] w fun en w' => en = .returned (.tuple #[st 0 0, .int .i64 0]) ∧ Below w.heap.size w w' := by
  have HA := Lib.hid ha
  have HB := Lib.hid hb
  have HC := Lib.hid hcut
  clear ha hb hcut
  have hg1 := fun xs ys x y w => run_guard .eql xs ys x y w (Or.inl rfl)
  have hg2 := fun xs ys x y w => run_guard .neq xs ys x y w (Or.inr rfl)
  have t0 := Tr.nil w
  go_enter Tryd.func9, Tryd.ntmps9
  go_wp2_with (go_at_call 15; with_reducible refine (HC.out _).mono ?_; rintro e w1 ⟨rfl, hb⟩; have t1 := Tr.later (W0 := w) (by repeat (first | with_reducible assumption | with_reducible apply Tr.alloc | with_reducible apply Tr.drew | with_reducible apply Tr.drewN | with_reducible apply Tr.ext | with_reducible apply Tr.other)) hb; have r1 := t1.rules; simp only [Rules, World.size_alloc, World.size_drew, World.size_setCell] at r1; clear hb)
  with_reducible refine (num_any _ HA.out _ true _ (t1.blk (w.heap.size + 1) #[.bool true] 4 (by simp))).mono ?_
  rintro e w2 ⟨rfl, hch, hok⟩
  have t2 := Tr.chg (L' := [(w.heap.size + 1, #[.bool (numOk a.data.toList true)], 4), (w.heap.size, #[.int .i64 0, .int .i64 0], 23)]) t1 hch (by omega) hok (by simp)
  clear hch hok t1 r1
  go_wp2_with fail
  with_reducible refine (num_any _ HB.out _ _ _ (t2.blk (w.heap.size + 1) #[.bool (numOk a.data.toList true)] 4 (by simp))).mono ?_
  rintro e w3 ⟨rfl, hch, hok⟩
  have t3 := Tr.chg (L' := [(w.heap.size + 1, #[.bool (numOk b.data.toList (numOk a.data.toList true))], 4), (w.heap.size, #[.int .i64 0, .int .i64 0], 23)]) t2 hch (by omega) hok (by simp)
  have r1 := t3.rules
  simp only [Rules] at r1
  clear hch hok t2
  go_wp2
  refine bodyPost_ret (v := .tuple #[st 0 0, .int .i64 0]) (by simp [results, Tryd.results9, go_sem, r1]) rfl ⟨rfl, ?_⟩
  exact (Tr.below (W0 := w) (by repeat' (first | with_reducible assumption | with_reducible apply Tr.alloc | with_reducible apply Tr.drew | with_reducible apply Tr.drewN | with_reducible apply Tr.ext | with_reducible apply Tr.other | with_reducible apply Tr.setN | exact Nat.le_refl _ | exact Nat.le_succ _)))
set_option maxHeartbeats 2000000 in
theorem parse_4a (s a b : ByteArray) (ha : a.size ≤ maxLen) (hb : b.size ≤ maxLen) (hcut : Cuts s a b true) (h2 : numOk b.data.toList (numOk a.data.toList true) = true) (h3 : (numV a.data.toList == 0) = false) (h4 : rightB (numV a.data.toList) (numV b.data.toList) = true) (w : World) :
    Calls Tryd.prog 9 #[.string s] w fun en w' => en = .returned (.tuple #[st (numV a.data.toList) (numV b.data.toList), .int .i64 0]) ∧ Below w.heap.size w w' := by
  have HA := Lib.hid ha
  have HB := Lib.hid hb
  have HC := Lib.hid hcut
  clear ha hb hcut
  have HR := Lib.hid (fun w => bool_of h4 (right0_any (numV a.data.toList) (numV b.data.toList) w))
  clear h4
  have hg1 := fun xs ys x y w => run_guard .eql xs ys x y w (Or.inl rfl)
  have hg2 := fun xs ys x y w => run_guard .neq xs ys x y w (Or.inr rfl)
  have t0 := Tr.nil w
  go_enter Tryd.func9, Tryd.ntmps9
  go_wp2_with (go_at_call 15; with_reducible refine (HC.out _).mono ?_; rintro e w1 ⟨rfl, hb⟩; have t1 := Tr.later (W0 := w) (by repeat (first | with_reducible assumption | with_reducible apply Tr.alloc | with_reducible apply Tr.drew | with_reducible apply Tr.drewN | with_reducible apply Tr.ext | with_reducible apply Tr.other)) hb; have r1 := t1.rules; simp only [Rules, World.size_alloc, World.size_drew, World.size_setCell] at r1; clear hb)
  with_reducible refine (num_any _ HA.out _ true _ (t1.blk (w.heap.size + 1) #[.bool true] 4 (by simp))).mono ?_
  rintro e w2 ⟨rfl, hch, hok⟩
  have t2 := Tr.chg (L' := [(w.heap.size + 1, #[.bool (numOk a.data.toList true)], 4), (w.heap.size, #[.int .i64 0, .int .i64 0], 23)]) t1 hch (by omega) hok (by simp)
  clear hch hok t1 r1
  go_wp2_with fail
  with_reducible refine (num_any _ HB.out _ _ _ (t2.blk (w.heap.size + 1) #[.bool (numOk a.data.toList true)] 4 (by simp))).mono ?_
  rintro e w3 ⟨rfl, hch, hok⟩
  have t3 := Tr.chg (L' := [(w.heap.size + 1, #[.bool (numOk b.data.toList (numOk a.data.toList true))], 4), (w.heap.size, #[.int .i64 0, .int .i64 0], 23)]) t2 hch (by omega) hok (by simp)
  have r1 := t3.rules
  simp only [Rules] at r1
  clear hch hok t2
  go_wp2_with (go_at_call 7; with_reducible refine (HR.out _).mono ?_; rintro e w1 ⟨rfl, hb⟩; have t1 := Tr.later (W0 := w) (by repeat (first | with_reducible assumption | with_reducible apply Tr.alloc | with_reducible apply Tr.drew | with_reducible apply Tr.drewN | with_reducible apply Tr.ext | with_reducible apply Tr.other)) hb; have r1 := t1.rules; simp only [Rules, World.size_alloc, World.size_drew, World.size_setCell] at r1; clear hb)
  refine bodyPost_ret (v := .tuple #[st (numV a.data.toList) (numV b.data.toList), .int .i64 0]) (by simp [results, Tryd.results9, go_sem, r1]) rfl ⟨rfl, ?_⟩
  exact (Tr.below (W0 := w) (by repeat' (first | with_reducible assumption | with_reducible apply Tr.alloc | with_reducible apply Tr.drew | with_reducible apply Tr.drewN | with_reducible apply Tr.ext | with_reducible apply Tr.other | with_reducible apply Tr.setN | exact Nat.le_refl _ | exact Nat.le_succ _)))
set_option maxHeartbeats 2000000 in
theorem parse_4b (s a b : ByteArray) (ha : a.size ≤ maxLen) (hb : b.size ≤ maxLen) (hcut : Cuts s a b true) (h2 : numOk b.data.toList (numOk a.data.toList true) = true) (h3 : numV a.data.toList = 0) (h3' : (numV b.data.toList == 0) = false) (h4 : rightB 0 (numV b.data.toList) = true) (w : World) :
    Calls Tryd.prog 9 #[.string s] w fun en w' => en = .returned (.tuple #[st 0 (numV b.data.toList), .int .i64 0]) ∧ Below w.heap.size w w' := by
  have HA := Lib.hid ha
  have HB := Lib.hid hb
  have HC := Lib.hid hcut
  clear ha hb hcut
  have HR := Lib.hid (fun w => bool_of h4 (right0_any 0 (numV b.data.toList) w))
  clear h4
  have hg1 := fun xs ys x y w => run_guard .eql xs ys x y w (Or.inl rfl)
  have hg2 := fun xs ys x y w => run_guard .neq xs ys x y w (Or.inr rfl)
  have t0 := Tr.nil w
  go_enter Tryd.func9, Tryd.ntmps9
  go_wp2_with (go_at_call 15; with_reducible refine (HC.out _).mono ?_; rintro e w1 ⟨rfl, hb⟩; have t1 := Tr.later (W0 := w) (by repeat (first | with_reducible assumption | with_reducible apply Tr.alloc | with_reducible apply Tr.drew | with_reducible apply Tr.drewN | with_reducible apply Tr.ext | with_reducible apply Tr.other)) hb; have r1 := t1.rules; simp only [Rules, World.size_alloc, World.size_drew, World.size_setCell] at r1; clear hb)
  with_reducible refine (num_any _ HA.out _ true _ (t1.blk (w.heap.size + 1) #[.bool true] 4 (by simp))).mono ?_
  rintro e w2 ⟨rfl, hch, hok⟩
  have t2 := Tr.chg (L' := [(w.heap.size + 1, #[.bool (numOk a.data.toList true)], 4), (w.heap.size, #[.int .i64 0, .int .i64 0], 23)]) t1 hch (by omega) hok (by simp)
  clear hch hok t1 r1
  go_wp2_with fail
  with_reducible refine (num_any _ HB.out _ _ _ (t2.blk (w.heap.size + 1) #[.bool (numOk a.data.toList true)] 4 (by simp))).mono ?_
  rintro e w3 ⟨rfl, hch, hok⟩
  have t3 := Tr.chg (L' := [(w.heap.size + 1, #[.bool (numOk b.data.toList (numOk a.data.toList true))], 4), (w.heap.size, #[.int .i64 0, .int .i64 0], 23)]) t2 hch (by omega) hok (by simp)
  have r1 := t3.rules
  simp only [Rules] at r1
  clear hch hok t2
  go_wp2_with (go_at_call 7; with_reducible refine (HR.out _).mono ?_; rintro e w1 ⟨rfl, hb⟩; have t1 := Tr.later (W0 := w) (by repeat (first | with_reducible assumption | with_reducible apply Tr.alloc | with_reducible apply Tr.drew | with_reducible apply Tr.drewN | with_reducible apply Tr.ext | with_reducible apply Tr.other)) hb; have r1 := t1.rules; simp only [Rules, World.size_alloc, World.size_drew, World.size_setCell] at r1; clear hb)
  refine bodyPost_ret (v := .tuple #[st 0 (numV b.data.toList), .int .i64 0]) (by simp [results, Tryd.results9, go_sem, r1]) rfl ⟨rfl, ?_⟩
  exact (Tr.below (W0 := w) (by repeat' (first | with_reducible assumption | with_reducible apply Tr.alloc | with_reducible apply Tr.drew | with_reducible apply Tr.drewN | with_reducible apply Tr.ext | with_reducible apply Tr.other | with_reducible apply Tr.setN | exact Nat.le_refl _ | exact Nat.le_succ _)))
set_option maxHeartbeats 2000000 in
theorem parse_5a (s a b : ByteArray) (ha : a.size ≤ maxLen) (hb : b.size ≤ maxLen) (hcut : Cuts s a b true) (h2 : numOk b.data.toList (numOk a.data.toList true) = true) (h3 : (numV a.data.toList == 0) = false) (h4 : rightB (numV a.data.toList) (numV b.data.toList) = false) (w : World) :
    Calls Tryd.prog 9 #[.string s] w fun en w' => en = .returned (.tuple #[st 0 0, .int .i64 12]) ∧ Below w.heap.size w w' := by
  have HA := Lib.hid ha
  have HB := Lib.hid hb
  have HC := Lib.hid hcut
  clear ha hb hcut
  have HR := Lib.hid (fun w => bool_of h4 (right0_any (numV a.data.toList) (numV b.data.toList) w))
  clear h4
  have hg1 := fun xs ys x y w => run_guard .eql xs ys x y w (Or.inl rfl)
  have hg2 := fun xs ys x y w => run_guard .neq xs ys x y w (Or.inr rfl)
  have t0 := Tr.nil w
  go_enter Tryd.func9, Tryd.ntmps9
  go_wp2_with (go_at_call 15; with_reducible refine (HC.out _).mono ?_; rintro e w1 ⟨rfl, hb⟩; have t1 := Tr.later (W0 := w) (by repeat (first | with_reducible assumption | with_reducible apply Tr.alloc | with_reducible apply Tr.drew | with_reducible apply Tr.drewN | with_reducible apply Tr.ext | with_reducible apply Tr.other)) hb; have r1 := t1.rules; simp only [Rules, World.size_alloc, World.size_drew, World.size_setCell] at r1; clear hb)
  with_reducible refine (num_any _ HA.out _ true _ (t1.blk (w.heap.size + 1) #[.bool true] 4 (by simp))).mono ?_
  rintro e w2 ⟨rfl, hch, hok⟩
  have t2 := Tr.chg (L' := [(w.heap.size + 1, #[.bool (numOk a.data.toList true)], 4), (w.heap.size, #[.int .i64 0, .int .i64 0], 23)]) t1 hch (by omega) hok (by simp)
  clear hch hok t1 r1
  go_wp2_with fail
  with_reducible refine (num_any _ HB.out _ _ _ (t2.blk (w.heap.size + 1) #[.bool (numOk a.data.toList true)] 4 (by simp))).mono ?_
  rintro e w3 ⟨rfl, hch, hok⟩
  have t3 := Tr.chg (L' := [(w.heap.size + 1, #[.bool (numOk b.data.toList (numOk a.data.toList true))], 4), (w.heap.size, #[.int .i64 0, .int .i64 0], 23)]) t2 hch (by omega) hok (by simp)
  have r1 := t3.rules
  simp only [Rules] at r1
  clear hch hok t2
  go_wp2_with (go_at_call 7; with_reducible refine (HR.out _).mono ?_; rintro e w1 ⟨rfl, hb⟩; have t1 := Tr.later (W0 := w) (by repeat (first | with_reducible assumption | with_reducible apply Tr.alloc | with_reducible apply Tr.drew | with_reducible apply Tr.drewN | with_reducible apply Tr.ext | with_reducible apply Tr.other)) hb; have r1 := t1.rules; simp only [Rules, World.size_alloc, World.size_drew, World.size_setCell] at r1; clear hb)
  refine bodyPost_ret (v := .tuple #[st 0 0, .int .i64 12]) (by simp [results, Tryd.results9, go_sem, r1]) rfl ⟨rfl, ?_⟩
  exact (Tr.below (W0 := w) (by repeat' (first | with_reducible assumption | with_reducible apply Tr.alloc | with_reducible apply Tr.drew | with_reducible apply Tr.drewN | with_reducible apply Tr.ext | with_reducible apply Tr.other | with_reducible apply Tr.setN | exact Nat.le_refl _ | exact Nat.le_succ _)))
set_option maxHeartbeats 2000000 in
theorem parse_5b (s a b : ByteArray) (ha : a.size ≤ maxLen) (hb : b.size ≤ maxLen) (hcut : Cuts s a b true) (h2 : numOk b.data.toList (numOk a.data.toList true) = true) (h3 : numV a.data.toList = 0) (h3' : (numV b.data.toList == 0) = false) (h4 : rightB 0 (numV b.data.toList) = false) (w : World) :
    Calls Tryd.prog 9 #[.string s] w fun en w' => en = .returned (.tuple #[st 0 0, .int .i64 12]) ∧ Below w.heap.size w w' := by
  have HA := Lib.hid ha
  have HB := Lib.hid hb
  have HC := Lib.hid hcut
  clear ha hb hcut
  have HR := Lib.hid (fun w => bool_of h4 (right0_any 0 (numV b.data.toList) w))
  clear h4
  have hg1 := fun xs ys x y w => run_guard .eql xs ys x y w (Or.inl rfl)
  have hg2 := fun xs ys x y w => run_guard .neq xs ys x y w (Or.inr rfl)
  have t0 := Tr.nil w
  go_enter Tryd.func9, Tryd.ntmps9
  go_wp2_with (go_at_call 15; with_reducible refine (HC.out _).mono ?_; rintro e w1 ⟨rfl, hb⟩; have t1 := Tr.later (W0 := w) (by repeat (first | with_reducible assumption | with_reducible apply Tr.alloc | with_reducible apply Tr.drew | with_reducible apply Tr.drewN | with_reducible apply Tr.ext | with_reducible apply Tr.other)) hb; have r1 := t1.rules; simp only [Rules, World.size_alloc, World.size_drew, World.size_setCell] at r1; clear hb)
  with_reducible refine (num_any _ HA.out _ true _ (t1.blk (w.heap.size + 1) #[.bool true] 4 (by simp))).mono ?_
  rintro e w2 ⟨rfl, hch, hok⟩
  have t2 := Tr.chg (L' := [(w.heap.size + 1, #[.bool (numOk a.data.toList true)], 4), (w.heap.size, #[.int .i64 0, .int .i64 0], 23)]) t1 hch (by omega) hok (by simp)
  clear hch hok t1 r1
  go_wp2_with fail
  with_reducible refine (num_any _ HB.out _ _ _ (t2.blk (w.heap.size + 1) #[.bool (numOk a.data.toList true)] 4 (by simp))).mono ?_
  rintro e w3 ⟨rfl, hch, hok⟩
  have t3 := Tr.chg (L' := [(w.heap.size + 1, #[.bool (numOk b.data.toList (numOk a.data.toList true))], 4), (w.heap.size, #[.int .i64 0, .int .i64 0], 23)]) t2 hch (by omega) hok (by simp)
  have r1 := t3.rules
  simp only [Rules] at r1
  clear hch hok t2
  go_wp2_with (go_at_call 7; with_reducible refine (HR.out _).mono ?_; rintro e w1 ⟨rfl, hb⟩; have t1 := Tr.later (W0 := w) (by repeat (first | with_reducible assumption | with_reducible apply Tr.alloc | with_reducible apply Tr.drew | with_reducible apply Tr.drewN | with_reducible apply Tr.ext | with_reducible apply Tr.other)) hb; have r1 := t1.rules; simp only [Rules, World.size_alloc, World.size_drew, World.size_setCell] at r1; clear hb)
  refine bodyPost_ret (v := .tuple #[st 0 0, .int .i64 12]) (by simp [results, Tryd.results9, go_sem, r1]) rfl ⟨rfl, ?_⟩
  exact (Tr.below (W0 := w) (by repeat' (first | with_reducible assumption | with_reducible apply Tr.alloc | with_reducible apply Tr.drew | with_reducible apply Tr.drewN | with_reducible apply Tr.ext | with_reducible apply Tr.other | with_reducible apply Tr.setN | exact Nat.le_refl _ | exact Nat.le_succ _)))
end Go.Proofs.YtpkbkcjegbpifaaDoor
