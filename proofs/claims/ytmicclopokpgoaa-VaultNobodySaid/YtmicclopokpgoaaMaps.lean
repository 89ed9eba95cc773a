/- Maps whose keys and elements are read as lists of pairs, in the order in which they came. -/
import Derived.Test.YtmicclopokpgoaaBase
import Derived.Laws.StructEq
import Derived.Maps.Own
namespace Go.Proofs.Ytmicclopokpgoaa
open Go.RowKit
set_option linter.unusedVariables false
set_option linter.unusedSimpArgs false

/-- What is to be known of a map type t with keys of type k, elements of type e, as encK and encV lay them. -/
structure MapT (P : Program) (t k e : TypeId) {κ V : Type} [DecidableEq κ] (encK : κ → Value) (encV : V → Value) (d : V) : Prop where
  und : P.underlying t = some (.map k e)
  chk : ∀ (b : Bool) (x : κ) (w : World), (Instr.checkKey b 10000 k (encK x)).run P w = .ok () w
  eq : ∀ (x y : κ) (w : World), (Op.equal k (encK x) (encK y)).run P w = .ok (decide (x = y)) w
  now : ∃ kd, P.underlying k = some kd ∧ ∀ x y : κ, Instr.sameNow kd (encK x) (encK y) = none
  zero : ∀ w, (zeroValue e).run P w = .ok (encV d) w
  same : ∀ x : κ, Instr.sameBits 10000 (encK x) (encK x) = true

section
set_option linter.unusedSectionVars false
variable {κ V : Type} [DecidableEq κ] {encK : κ → Value} {encV : V → Value}

/-- Where a key is first, and what stands there. -/
def findIx (k : κ) : List (κ × V) → Nat → Option (Nat × V)
  | [], _ => none
  | x :: l, i => if k = x.1 then some (i, x.2) else findIx k l (i + 1)
/-- What stands at a key. -/
def lookL (k : κ) (l : List (κ × V)) : Option V := (findIx k l 0).map (·.2)

/-- Entries that read as pairs. -/
def Pairs (encK : κ → Value) (encV : V → Value) (es : List MapEntry) (l : List (κ × V)) : Prop := es.map (fun e => (e.key, e.val)) = l.map (fun x => (encK x.1, encV x.2))
/-- Block m is a map that reads as the pairs l. -/
def MapAt (w : World) (encK : κ → Value) (encV : V → Value) (m : Nat) (l : List (κ × V)) : Prop :=
  ∃ es clock, w.heap[m]? = some (.map es clock) ∧ Pairs encK encV es.toList l ∧ (l.map (·.1)).Nodup ∧ (es.toList.map (·.born)).Nodup ∧ ∀ x ∈ es.toList, x.born < clock
theorem MapAt.lt {w : World} {m : Nat} {l : List (κ × V)} (h : MapAt w encK encV m l) : m < w.heap.size := by
  obtain ⟨es, clock, h, _⟩ := h
  exact lt_of h
theorem MapAt.ext {w w' : World} {S : Foot} {m : Nat} {l : List (κ × V)} (h : MapAt w encK encV m l) (x : Ext S w w') (hs : ¬ S m) : MapAt w' encK encV m l := by
  obtain ⟨es, clock, h, r⟩ := h
  exact ⟨es, clock, x.block h hs, r⟩
theorem MapAt.made (w : World) : MapAt (w.alloc (.map #[] 0)) encK encV w.heap.size ([] : List (κ × V)) :=
  ⟨#[], 0, alloc_at _ _, rfl, by simp, by simp, by simp⟩

variable {P : Program} {t k e : TypeId} {d : V}

theorem run_findAsking (M : MapT P t k e encK encV d) (x : κ) (w : World) : ∀ (es : List MapEntry) (l : List (κ × V)) (i : Nat), Pairs encK encV es l →
    (Instr.findAsking k (encK x) es i).run P w = .ok ((findIx x l i).map fun y => (y.1, encV y.2)) w
  | [], l, i, h => by
    have : l = [] := by simpa [Pairs] using h.symm
    subst this
    simp [Instr.findAsking, findIx]
  | a :: es, l, i, h => by
    match l, h with
    | y :: l, h =>
      have h1 : a.key = encK y.1 ∧ a.val = encV y.2 := by
        have := congrArg List.head? h
        simpa using this
      have h2 : Pairs encK encV es l := by
        have := congrArg List.tail h
        simpa [Pairs] using this
      have ih := run_findAsking M x w es l (i + 1) h2
      unfold Instr.findAsking
      rw [h1.1, h1.2]
      simp only [Sem.run_bind, M.eq, Result.andThen_ok]
      by_cases hx : x = y.1
      · simp [hx, findIx]
      · simp [hx, findIx, ih]
    | [], h => simp [Pairs] at h

theorem run_findKey (M : MapT P t k e encK encV d) (x : κ) (w : World) (es : List MapEntry) (l : List (κ × V)) (h : Pairs encK encV es l) :
    (Instr.findKey k (encK x) es).run P w = .ok ((findIx x l 0).map fun y => (y.1, encV y.2)) w := by
  obtain ⟨kd, hkd, hn⟩ := M.now
  unfold Instr.findKey
  simp only [Sem.run_bind, run_underlying hkd, Result.andThen_ok]
  match es, l, h with
  | [], l, h =>
    have : l = [] := by simpa [Pairs] using h.symm
    subst this
    simp [Instr.findNow, findIx]
  | a :: es, y :: l, h =>
    have h1 : a.key = encK y.1 := by
      have := congrArg List.head? h
      simp at this
      exact this.1
    have : Instr.findNow kd (encK x) (a :: es) 0 = none := by
      simp [Instr.findNow, h1, hn]
    simp only [this]
    exact run_findAsking M x w _ _ 0 h
  | a :: es, [], h => simp [Pairs] at h

theorem run_lookup_ok (M : MapT P t k e encK encV d) (x : κ) (w : World) {m : Nat} {l : List (κ × V)} (h : MapAt w encK encV m l) :
    (Instr.lookup t (.map (some m)) (encK x) true).run P w = .ok (.tuple #[encV ((lookL x l).getD d), .bool (lookL x l).isSome]) w := by
  obtain ⟨es, clock, hb, hp, _⟩ := h
  unfold Instr.lookup lookL
  simp only [Sem.run_bind, run_underlying M.und, Result.andThen_ok]
  cases hf : findIx x l 0 <;> simp [getObj, Sem.run, hb, M.chk, run_findKey M x w _ _ hp, hf, Result.andThen, M.zero]
theorem run_lookup (M : MapT P t k e encK encV d) (x : κ) (w : World) {m : Nat} {l : List (κ × V)} (h : MapAt w encK encV m l) :
    (Instr.lookup t (.map (some m)) (encK x) false).run P w = .ok (encV ((lookL x l).getD d)) w := by
  obtain ⟨es, clock, hb, hp, _⟩ := h
  unfold Instr.lookup lookL
  simp only [Sem.run_bind, run_underlying M.und, Result.andThen_ok]
  cases hf : findIx x l 0 <;> simp [getObj, Sem.run, hb, M.chk, run_findKey M x w _ _ hp, hf, Result.andThen, M.zero]

theorem findIx_add (x : κ) (l : List (κ × V)) (i : Nat) : findIx x l i = (findIx x l 0).map fun y => (y.1 + i, y.2) := by
  induction l generalizing i with
  | nil => rfl
  | cons y l ih =>
    unfold findIx
    by_cases h : x = y.1
    · simp [h]
    · simp only [h, if_false]
      rw [ih (i + 1), ih (0 + 1)]
      cases findIx x l 0 <;> simp; omega
theorem findIx_none {x : κ} {l : List (κ × V)} (h : findIx x l 0 = none) : ∀ y ∈ l, y.1 ≠ x := by
  induction l with
  | nil => simp
  | cons y l ih =>
    unfold findIx at h
    by_cases hx : x = y.1
    · simp [hx] at h
    · rw [if_neg hx, findIx_add] at h
      have := ih (by cases hf : findIx x l 0 <;> simp [hf] at h ⊢)
      intro z hz
      rcases List.mem_cons.1 hz with rfl | hz
      · exact fun e => hx e.symm
      · exact this z hz
theorem findIx_some {x : κ} {l : List (κ × V)} {i : Nat} {v : V} (h : findIx x l 0 = some (i, v)) : l[i]? = some (x, v) := by
  induction l generalizing i with
  | nil => simp [findIx] at h
  | cons y l ih =>
    unfold findIx at h
    by_cases hx : x = y.1
    · rw [if_pos hx] at h
      simp at h
      obtain ⟨rfl, rfl⟩ := h
      simp [hx]
    · rw [if_neg hx, findIx_add] at h
      cases hf : findIx x l 0 with
      | none => simp [hf] at h
      | some z =>
        simp [hf] at h
        obtain ⟨rfl, rfl⟩ := h
        have := ih hf
        simpa using this

/-- A pair more, or another element at a key. -/
def putL (x : κ) (v : V) (l : List (κ × V)) : List (κ × V) :=
  match findIx x l 0 with
  | some (i, _) => l.set i (x, v)
  | none => l ++ [(x, v)]
/-- A key struck. -/
def delL (x : κ) (l : List (κ × V)) : List (κ × V) :=
  match findIx x l 0 with
  | some (i, _) => l.eraseIdx i
  | none => l

theorem map_block {w : World} {m : Nat} {es : Array MapEntry} {clock : Nat} (hb : w.heap[m]? = some (.map es clock)) (o : Obj) :
    (setObj m o).run P w = .ok () (ChangeMaps.setBlock w m o) ∧ (ChangeMaps.setBlock w m o).heap[m]? = some o ∧ Ext (one m) w (ChangeMaps.setBlock w m o) := by
  have hlt := lt_of hb
  refine ⟨by simp [setObj, Sem.run, hb, ChangeMaps.setBlock], by simp [ChangeMaps.setBlock, hlt], ⟨rfl, rfl, rfl, by simp [ChangeMaps.setBlock], fun b hb' hne => ?_⟩⟩
  simp only [ChangeMaps.setBlock]
  rw [Array.getElem?_setIfInBounds, if_neg (fun e => hne (by rw [← e]; rfl))]

theorem run_mapUpdate (M : MapT P t k e encK encV d) (x : κ) (v : V) (w : World) {m : Nat} {l : List (κ × V)} (h : MapAt w encK encV m l) :
    ∃ w', (Instr.mapUpdate t (.map (some m)) (encK x) (encV v)).run P w = .ok () w' ∧ MapAt w' encK encV m (putL x v l) ∧ Ext (one m) w w' := by
  obtain ⟨es, clock, hb, hp, hnd, hbd, hcl⟩ := h
  unfold Instr.mapUpdate putL
  simp only [Sem.run_bind, run_underlying M.und, Result.andThen_ok]
  cases hf : findIx x l 0 with
  | none =>
    obtain ⟨h1, h2, h3⟩ := map_block (P := P) hb (.map (es.push ⟨encK x, encV v, clock⟩) (clock + 1))
    refine ⟨_, by simp [getObj, Sem.run, hb, M.chk, run_findKey M x w _ _ hp, hf, Result.andThen, h1], ⟨_, _, h2, ?_, ?_, ?_, ?_⟩, h3⟩
    · have : es.toList.map (fun e => (e.key, e.val)) = l.map (fun x => (encK x.1, encV x.2)) := hp
      simp [Pairs, this]
    · simp only [List.map_append, List.map_cons, List.map_nil]
      rw [List.nodup_append]
      refine ⟨hnd, by simp, ?_⟩
      intro a ha b hb' e
      simp at ha hb'
      subst hb' e
      obtain ⟨z, hz⟩ := ha
      exact findIx_none hf _ hz rfl
    · simp only [Array.toList_push, List.map_append, List.map_cons, List.map_nil]
      rw [List.nodup_append]
      refine ⟨hbd, by simp, ?_⟩
      intro a ha b hb' e
      simp at ha hb'
      subst hb' e
      obtain ⟨z, hz, hz2⟩ := ha
      have := hcl z (by simpa using hz)
      omega
    · intro z hz
      simp at hz
      rcases hz with hz | rfl
      · have := hcl z (by simpa using hz); omega
      · simp
  | some iv =>
    obtain ⟨i, v0⟩ := iv
    have hl := findIx_some hf
    have hes : ∃ a, es.toList[i]? = some a ∧ a.key = encK x := by
      have h1 := congrArg (fun q => q[i]?) hp
      simp only [List.getElem?_map, hl] at h1
      cases ha : es.toList[i]? with
      | none => simp [ha] at h1
      | some a => simp [ha] at h1; exact ⟨a, rfl, h1.1⟩
    obtain ⟨a, ha, hak⟩ := hes
    have ha' : es[i]? = some a := by simpa using ha
    obtain ⟨h1, h2, h3⟩ := map_block (P := P) hb (.map (es.modify i fun e => { e with key := encK x, val := encV v }) clock)
    have hkeep : (Instr.keyThatStays (encK x) (encK x)).run P w = .ok (encK x) w := by simp [Instr.keyThatStays, M.same]
    refine ⟨_, by simp [getObj, Sem.run, hb, M.chk, run_findKey M x w _ _ hp, hf, Result.andThen, ha', hak, hkeep, h1], ⟨_, _, h2, ?_, ?_, ?_, ?_⟩, h3⟩
    · show (es.modify i _).toList.map _ = _
      have hp' : es.toList.map (fun e => (e.key, e.val)) = l.map (fun x => (encK x.1, encV x.2)) := hp
      rw [Array.toList_modify, List.map_set, ← hp']
      apply List.ext_getElem?
      intro j
      simp only [List.getElem?_map, List.getElem?_modify, List.getElem?_set]
      by_cases hj : i = j
      · subst hj
        simp [ha]
        exact (List.getElem?_eq_some_iff.1 ha).1
      · simp [hj]
    · have : (l.set i (x, v)).map (·.1) = l.map (·.1) := by
        apply List.ext_getElem?
        intro j
        simp only [List.getElem?_map, List.getElem?_set]
        by_cases hj : i = j
        · subst hj
          have := (List.getElem?_eq_some_iff.1 hl).1
          simp [this, hl]
          have e := (List.getElem?_eq_some_iff.1 hl).2
          rw [e]
        · simp [hj]
      rw [this]; exact hnd
    · have : (es.modify i fun e => { e with key := encK x, val := encV v }).toList.map (·.born) = es.toList.map (·.born) := by
        rw [Array.toList_modify]
        apply List.ext_getElem?
        intro j
        simp only [List.getElem?_map, List.getElem?_modify]
        cases es.toList[j]? <;> by_cases hj : i = j <;> simp [hj]
      rw [this]; exact hbd
    · intro z hz
      rw [Array.toList_modify] at hz
      obtain ⟨j, hj⟩ := List.mem_iff_getElem?.1 hz
      rw [List.getElem?_modify] at hj
      cases hq : es.toList[j]? with
      | none => simp [hq] at hj
      | some q =>
        have := hcl q (List.mem_iff_getElem?.2 ⟨j, hq⟩)
        simp [hq] at hj
        split at hj <;> subst hj <;> simpa using this

theorem map_eraseIdx {α β : Type} (f : α → β) : ∀ (l : List α) (i : Nat), (l.eraseIdx i).map f = (l.map f).eraseIdx i
  | [], _ => by simp
  | a :: l, 0 => by simp
  | a :: l, i + 1 => by simp [map_eraseIdx f l i]
theorem run_delete (M : MapT P t k e encK encV d) (x : κ) (w : World) {m : Nat} {l : List (κ × V)} (ty kt : TypeId) (h : MapAt w encK encV m l) :
    ∃ w', (Builtin.delete_ #[t, kt] ty #[.map (some m), encK x]).run P w = .ok (.tuple #[]) w' ∧ MapAt w' encK encV m (delL x l) ∧ Ext (one m) w w' := by
  obtain ⟨es, clock, hb, hp, hnd, hbd, hcl⟩ := h
  have hp' : es.toList.map (fun e => (e.key, e.val)) = l.map (fun x => (encK x.1, encV x.2)) := hp
  unfold Builtin.delete_ delL
  simp only [List.getElem?_toArray, List.getElem?_cons_zero, List.getElem?_cons_succ, Sem.run_bind, run_underlying M.und, Result.andThen_ok]
  cases hf : findIx x l 0 with
  | none =>
    obtain ⟨h1, h2, h3⟩ := map_block (P := P) hb (.map es clock)
    exact ⟨_, by simp [getObj, Sem.run, hb, M.chk, run_findKey M x w _ _ hp, hf, Result.andThen, h1], ⟨_, _, h2, hp, hnd, hbd, hcl⟩, h3⟩
  | some iv =>
    obtain ⟨i, v0⟩ := iv
    have hl := findIx_some hf
    have hil : i < l.length := (List.getElem?_eq_some_iff.1 hl).1
    have hlen : es.toList.length = l.length := by have := congrArg List.length hp'; simpa using this
    have hie : i < es.size := by simpa using (hlen ▸ hil : i < es.toList.length)
    obtain ⟨h1, h2, h3⟩ := map_block (P := P) hb (.map (es.eraseIdxIfInBounds i) clock)
    have he : (es.eraseIdxIfInBounds i).toList = es.toList.eraseIdx i := by
      simp [Array.eraseIdxIfInBounds, hie]
    refine ⟨_, by simp [getObj, Sem.run, hb, M.chk, run_findKey M x w _ _ hp, hf, Result.andThen, h1], ⟨_, _, h2, ?_, ?_, ?_, ?_⟩, h3⟩
    · show (es.eraseIdxIfInBounds i).toList.map _ = _
      rw [he, map_eraseIdx, hp', map_eraseIdx]
    · rw [map_eraseIdx]; exact hnd.sublist (List.eraseIdx_sublist ..)
    · rw [he, map_eraseIdx]; exact hbd.sublist (List.eraseIdx_sublist ..)
    · intro z hz
      rw [he] at hz
      exact hcl z (List.mem_of_mem_eraseIdx hz)

/-- An iterator at block r over the map at block m, of which the pairs 'left' are still to come. -/
def IterAt (w : World) (encK : κ → Value) (encV : V → Value) (r m : Nat) (l left : List (κ × V)) : Prop :=
  ∃ es clock seen last, w.heap[m]? = some (.map es clock) ∧ w.heap[r]? = some (.mapIter (some m) clock seen last) ∧ Pairs encK encV es.toList l ∧ (l.map (·.1)).Nodup ∧ (es.toList.map (·.born)).Nodup ∧ (∀ x ∈ es.toList, x.born < clock) ∧
    (seen.isEmpty = false → last = clock) ∧ Pairs encK encV (es.toList.filter fun e => !seen.contains e.born) left
theorem IterAt.map {w : World} {r m : Nat} {l left : List (κ × V)} (h : IterAt w encK encV r m l left) : MapAt w encK encV m l := by
  obtain ⟨es, clock, seen, last, h1, h2, h3, h4, h5, h6, _⟩ := h
  exact ⟨es, clock, h1, h3, h4, h5, h6⟩
theorem IterAt.ext {w w' : World} {S : Foot} {r m : Nat} {l left : List (κ × V)} (h : IterAt w encK encV r m l left) (x : Ext S w w') (hm : ¬ S m) (hr : ¬ S r) : IterAt w' encK encV r m l left := by
  obtain ⟨es, clock, seen, last, h1, h2, h3⟩ := h
  exact ⟨es, clock, seen, last, x.block h1 hm, x.block h2 hr, h3⟩
theorem run_range (M : MapT P t k e encK encV d) (w : World) {m : Nat} {l : List (κ × V)} (h : MapAt w encK encV m l) :
    ∃ w', (Instr.range t (.map (some m))).run P w = .ok (.pointer (some ⟨w.heap.size, 0, none⟩)) w' ∧ IterAt w' encK encV w.heap.size m l l ∧ Ext noFoot w w' := by
  obtain ⟨es, clock, hb, hp, hnd, hbd, hcl⟩ := h
  refine ⟨w.alloc (.mapIter (some m) clock #[] clock), ?_, ⟨es, clock, #[], clock, alloc_block _ hb, alloc_at _ _, hp, hnd, hbd, hcl, by simp, ?_⟩, (Ext.refl _ _).alloc _⟩
  · simp [Instr.range, run_underlying M.und, Result.andThen, getObj, Sem.run, hb, newObj]
  · have : es.toList.filter (fun e => !(#[] : Array Nat).contains e.born) = es.toList := List.filter_eq_self.2 (by simp)
    rw [this]; exact hp

theorem pairs_length {es : List MapEntry} {l : List (κ × V)} (h : Pairs encK encV es l) : es.length = l.length := by
  have := congrArg List.length h
  simpa using this
theorem pairs_get {es : List MapEntry} {l : List (κ × V)} (h : Pairs encK encV es l) {i : Nat} {a : MapEntry} (ha : es[i]? = some a) : ∃ y, l[i]? = some y ∧ a.key = encK y.1 ∧ a.val = encV y.2 := by
  have h1 := congrArg (fun q => q[i]?) h
  simp only [List.getElem?_map, ha] at h1
  cases hy : l[i]? with
  | none => simp [hy] at h1
  | some y => simp [hy] at h1; exact ⟨y, rfl, h1.1, h1.2⟩
theorem choose_lt (w : World) (n : Nat) (hn : 0 < n) : ∃ i w', (choose (.mapNext n)).run P w = .ok i w' ∧ i < n ∧ w'.heap = w.heap ∧ Ext noFoot w w' := by
  unfold choose
  simp only [Sem.run]
  by_cases h : (Question.mapNext n).forced = true
  · rw [if_pos h]
    exact ⟨0, w, rfl, hn, rfl, Ext.refl _ _⟩
  · rw [if_neg h]
    exact ⟨_, _, rfl, Nat.mod_lt _ hn, rfl, (Ext.refl _ w).drew⟩
theorem nodup_filter_erase {es : List MapEntry} (hn : (es.map (·.born)).Nodup) (f : MapEntry → Bool) {i : Nat} {a : MapEntry} (ha : (es.filter f)[i]? = some a) :
    es.filter (fun e => f e && !(e.born == a.born)) = (es.filter f).eraseIdx i := by
  induction es generalizing i with
  | nil => simp at ha
  | cons b es ih =>
    have hn' : (es.map (·.born)).Nodup := by simp at hn; exact hn.2
    have hb : ∀ x ∈ es, x.born ≠ b.born := by
      simp at hn
      intro x hx e
      exact hn.1 x hx e
    by_cases hf : f b = true
    · rw [List.filter_cons_of_pos hf] at ha ⊢
      cases i with
      | zero =>
        simp at ha
        subst ha
        rw [List.filter_cons_of_neg (by simp)]
        simp only [List.eraseIdx_cons_zero]
        apply List.filter_congr
        intro x hx
        simp [hb x hx]
      | succ i =>
        simp only [List.getElem?_cons_succ] at ha
        have hmem : a ∈ es := (List.mem_filter.1 (List.mem_of_getElem? ha)).1
        rw [List.filter_cons_of_pos (by simp [hf]; exact fun e => hb a hmem e.symm), List.eraseIdx_cons_succ, ih hn' ha]
    · rw [List.filter_cons_of_neg hf] at ha ⊢
      rw [List.filter_cons_of_neg (by simp [hf]), ih hn' ha]

theorem find_born {es : List MapEntry} (hn : (es.map (·.born)).Nodup) {a : MapEntry} (ha : a ∈ es) : es.find? (fun e => e.born == a.born) = some a := by
  induction es with
  | nil => simp at ha
  | cons b es ih =>
    simp at hn
    by_cases hb : b.born = a.born
    · rcases List.mem_cons.1 ha with rfl | h
      · simp
      · exact absurd hb.symm (hn.1 a h)
    · rw [List.find?_cons_of_neg (by simpa using hb)]
      rcases List.mem_cons.1 ha with rfl | h
      · exact absurd rfl hb
      · exact ih hn.2 h
theorem run_getIter {w : World} {r : Nat} {a : Option Nat} {c l : Nat} {s : Array Nat} (h : w.heap[r]? = some (.mapIter a c s l)) : (getObj r).run P w = .ok (.mapIter a c s l) w := by simp [getObj, Sem.run, h]
theorem run_getMap {w : World} {m : Nat} {es : Array MapEntry} {c : Nat} (h : w.heap[m]? = some (.map es c)) : (getObj m).run P w = .ok (.map es c) w := by simp [getObj, Sem.run, h]

/-- Behind the last pair the range ends. -/
theorem run_next_end (w : World) (ty : TypeId) {r m : Nat} {l : List (κ × V)} (h : IterAt w encK encV r m l []) :
    ∃ w', (Instr.next (.pointer (some ⟨r, 0, none⟩)) false ty).run P w = .ok (.tuple #[.bool false]) w' ∧ Ext noFoot w w' ∧ w'.heap = w.heap := by
  obtain ⟨es, clock, seen, last, hm, hr, hp, hnd, hbd, hcl, hla, hlf⟩ := h
  have hleft : (es.filter fun e => !seen.contains e.born) = #[] := by
    have : (es.toList.filter fun e => !seen.contains e.born) = [] := by
      have := pairs_length hlf
      exact List.eq_nil_of_length_eq_zero (by simpa using this)
    apply Array.ext'
    simpa using this
  have hguard : (!seen.isEmpty && !es.isEmpty && es.all (fun x => decide (x.born ≥ last))) = false := by
    cases hs : seen.isEmpty
    · cases he : es.isEmpty
      · have hne : es.toList ≠ [] := by intro e; simp at e; simp [e] at he
        obtain ⟨x, hx⟩ := List.exists_mem_of_ne_nil _ hne
        have hlt := hcl x hx
        rw [← hla hs] at hlt
        have : es.all (fun x => decide (x.born ≥ last)) = false := by
          rw [Bool.eq_false_iff]
          intro hall
          rw [Array.all_eq_true_iff_forall_mem] at hall
          have := hall x (by simpa using hx)
          simp at this
          omega
        simp [this]
      · simp
    · simp
  refine ⟨w, ?_, Ext.refl _ _, rfl⟩
  unfold Instr.next
  simp only [Sem.run_bind, run_getIter hr, run_getMap hm, Result.andThen_ok, hguard, hleft]
  simp [Question.forced]

/-- A pair more: whichever of those that are left. -/
theorem run_next (w : World) (ty : TypeId) {r m : Nat} {l left : List (κ × V)} (h : IterAt w encK encV r m l left) (hne : left ≠ []) :
    ∃ (i : Nat) (y : κ × V) (w' : World), left[i]? = some y ∧ (Instr.next (.pointer (some ⟨r, 0, none⟩)) false ty).run P w = .ok (.tuple #[.bool true, encK y.1, encV y.2]) w' ∧
      IterAt w' encK encV r m l (left.eraseIdx i) ∧ Ext (one r) w w' ∧ (Instr.entry (.pointer (some ⟨r, 0, none⟩))).run P w' = .ok (.tuple #[encK y.1, encV y.2]) w' := by
  obtain ⟨es, clock, seen, last, hm, hr, hp, hnd, hbd, hcl, hla, hlf⟩ := h
  have hguard : (!seen.isEmpty && !es.isEmpty && es.all (fun x => decide (x.born ≥ last))) = false := by
    cases hs : seen.isEmpty
    · cases he : es.isEmpty
      · have hne : es.toList ≠ [] := by intro e; simp at e; simp [e] at he
        obtain ⟨x, hx⟩ := List.exists_mem_of_ne_nil _ hne
        have hlt := hcl x hx
        rw [← hla hs] at hlt
        have : es.all (fun x => decide (x.born ≥ last)) = false := by
          rw [Bool.eq_false_iff]
          intro hall
          rw [Array.all_eq_true_iff_forall_mem] at hall
          have := hall x (by simpa using hx)
          simp at this
          omega
        simp [this]
      · simp
    · simp
  have hll := pairs_length hlf
  have hpos : 0 < left.length := List.length_pos_iff.2 hne
  generalize hL : (es.filter fun e => !seen.contains e.born) = L at *
  have hLl : L.toList = es.toList.filter fun e => !seen.contains e.born := by rw [← hL]; simp
  have hLs : L.size = left.length := by rw [← hll, ← hLl]; simp
  have hLb : ∀ x ∈ L.toList, x.born < clock := fun x hx => hcl x (by rw [hLl] at hx; exact (List.mem_filter.1 hx).1)
  have hold : (L.filter fun e => decide (e.born < clock)) = L := by
    apply Array.ext'
    rw [Array.toList_filter]
    exact List.filter_eq_self.2 (fun x hx => by simpa using hLb x hx)
  have hnew : (L.filter fun e => decide (e.born ≥ clock)) = #[] := by
    apply Array.ext'
    rw [Array.toList_filter]
    exact List.filter_eq_nil_iff.2 (fun x hx => by have := hLb x hx; simp; omega)
  obtain ⟨i, w1, hc, hi, hh, hx⟩ := choose_lt (P := P) w L.size (by omega)
  have hiL : i < L.toList.length := by simpa using hi
  have ha : L.toList[i]? = some (L.toList[i]'hiL) := List.getElem?_eq_getElem hiL
  generalize L.toList[i]'hiL = a at *
  rw [hLl] at ha
  obtain ⟨y, hy, hk, hv⟩ := pairs_get hlf ha
  have hr1 : w1.heap[r]? = some (.mapIter (some m) clock seen last) := by rw [hh]; exact hr
  have hm1 : w1.heap[m]? = some (.map es clock) := by rw [hh]; exact hm
  have hmr : m ≠ r := fun e => by rw [e, hr1] at hm1; cases hm1
  have haL : L[i]? = some a := by
    have : L.toList[i]? = some a := by rw [hLl]; exact ha
    simpa using this
  have hmem : a ∈ es.toList := (List.mem_filter.1 (List.mem_of_getElem? ha)).1
  have hset : (setObj r (.mapIter (some m) clock (seen.push a.born) clock)).run P w1 = .ok () (ChangeMaps.setBlock w1 r (.mapIter (some m) clock (seen.push a.born) clock)) := by
    simp [setObj, Sem.run, hr1, ChangeMaps.setBlock]
  have hrl := lt_of hr1
  have h2 : (ChangeMaps.setBlock w1 r (.mapIter (some m) clock (seen.push a.born) clock)).heap[r]? = some (.mapIter (some m) clock (seen.push a.born) clock) := by simp [ChangeMaps.setBlock, hrl]
  have h3 : Ext (one r) w1 (ChangeMaps.setBlock w1 r (.mapIter (some m) clock (seen.push a.born) clock)) := ⟨rfl, rfl, rfl, by simp [ChangeMaps.setBlock], fun b hb' hne => by
    simp only [ChangeMaps.setBlock]
    rw [Array.getElem?_setIfInBounds, if_neg (fun e => hne (by rw [← e]; rfl))]⟩
  have hm2 := h3.block hm1 (fun e => hmr e)
  refine ⟨i, y, _, hy, ?_, ⟨es, clock, seen.push a.born, clock, hm2, h2, hp, hnd, hbd, hcl, fun _ => rfl, ?_⟩, Ext.after hx h3, ?_⟩
  · unfold Instr.next
    simp only [Sem.run_bind, run_getIter hr, run_getMap hm, Result.andThen_ok, hguard, hL, hold, hnew]
    have hemp : L.isEmpty = false := by rw [Array.isEmpty_eq_false_iff]; intro e; rw [e] at hi; simp at hi
    have hcd : ((if L.isEmpty = true then #[none] else #[]) ++ Array.map some (L ++ #[])) = L.map some := by simp [hemp]
    simp only [Bool.false_eq_true, if_false, Sem.run_bind, Sem.run_pure, Result.andThen_ok, hcd, Array.size_map, hc, Array.getElem?_map, haL, Option.map_some, hset, hk, hv]
  · have e1 : (es.toList.filter fun e => !(seen.push a.born).contains e.born) = es.toList.filter fun e => (!seen.contains e.born) && !(e.born == a.born) := by
      apply List.filter_congr
      intro x hx
      rw [Bool.eq_iff_iff]
      simp [Array.contains_push, Bool.not_or]
    rw [e1, nodup_filter_erase hbd _ ha]
    show (List.eraseIdx _ i).map _ = _
    rw [map_eraseIdx, map_eraseIdx]
    exact congrArg (fun q => q.eraseIdx i) hlf
  · unfold Instr.entry
    have hfind : es.find? (fun e => e.born == a.born) = some a := by
      have : es.toList.find? (fun e => e.born == a.born) = some a := by
        exact find_born hbd hmem
      rw [← Array.find?_toList]; exact this
    simp only [Sem.run_bind, run_getIter h2, Result.andThen_ok]
    simp [run_getMap hm2, Result.andThen, hfind, hk, hv]
end
end Go.Proofs.Ytmicclopokpgoaa
