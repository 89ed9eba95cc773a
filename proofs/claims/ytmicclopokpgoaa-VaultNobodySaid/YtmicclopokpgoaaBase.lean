/- Words for the proofs of this seat: worlds in which only some blocks may have turned, and slices that read as lists. No program is named here. -/
import Derived.Below
import Derived.Deep.Draws
import Derived.OwnWalk
import Derived.WalkKit
import Derived.Laws.OwnMore
import Derived.Laws.MakeOwn
import Derived.Laws.AppendOwnNone
import Derived.Maps.AppendAt
import Derived.Deep.AppendLies
import Derived.KernelRfl
import Derived.RowKit3
set_option linter.unusedVariables false
set_option linter.unusedSimpArgs false
namespace Go.Proofs.Ytmicclopokpgoaa
open Go.RowKit

/-- A number of 64 bits. -/
def U64 (n : Nat) : Prop := n < 18446744073709551616

/-- A set of blocks. -/
abbrev Foot := Nat → Prop
def noFoot : Foot := fun _ => False
/-- All blocks that are younger than the world. -/
def young (w : World) : Foot := fun b => w.heap.size ≤ b

/-- From w to w' nothing but blocks of S has turned; blocks may have been made. -/
structure Ext (S : Foot) (w w' : World) : Prop where
  os : w'.os = w.os
  tape : w'.tape = w.tape
  output : w'.output = w.output
  size : w.heap.size ≤ w'.heap.size
  same : ∀ b, b < w.heap.size → ¬ S b → w'.heap[b]? = w.heap[b]?

theorem Ext.refl (S : Foot) (w : World) : Ext S w w := ⟨rfl, rfl, rfl, Nat.le_refl _, fun _ _ _ => rfl⟩
theorem Ext.trans {S T : Foot} {a b c : World} (h : Ext S a b) (k : Ext T b c) (hT : ∀ x, x < a.heap.size → T x → S x) : Ext S a c :=
  ⟨k.os.trans h.os, k.tape.trans h.tape, k.output.trans h.output, Nat.le_trans h.size k.size,
    fun x hx hs => (k.same x (Nat.lt_of_lt_of_le hx h.size) (fun ht => hs (hT x hx ht))).trans (h.same x hx hs)⟩
theorem Ext.mono {S T : Foot} {a b : World} (h : Ext S a b) (hT : ∀ x, x < a.heap.size → S x → T x) : Ext T a b :=
  ⟨h.os, h.tape, h.output, h.size, fun x hx ht => h.same x hx (fun hs => ht (hT x hx hs))⟩
theorem Ext.then {S : Foot} {a b c : World} (h : Ext S a b) (k : Ext noFoot b c) : Ext S a c := h.trans k (fun _ _ h => h.elim)
theorem Ext.after {S : Foot} {a b c : World} (h : Ext noFoot a b) (k : Ext S b c) : Ext S a c := (h.mono fun _ _ h => h.elim).trans k (fun _ _ h => h)
theorem Ext.alloc {S : Foot} {a b : World} (h : Ext S a b) (o : Obj) : Ext S a (b.alloc o) :=
  h.trans (T := noFoot) ⟨rfl, rfl, rfl, by simp, fun k hk _ => Below.heap_alloc _ _ _ hk⟩ (fun _ _ h => h.elim)
theorem Ext.drew {S : Foot} {a b : World} (h : Ext S a b) : Ext S a b.drew := ⟨h.os, h.tape, h.output, h.size, h.same⟩
theorem Ext.drewN {S : Foot} {a b : World} (h : Ext S a b) (n : Nat) : Ext S a (b.drewN n) := ⟨h.os, h.tape, h.output, h.size, h.same⟩
theorem Ext.setCell {S : Foot} {a b : World} (h : Ext S a b) (p : Addr) (v : Value) (hp : p.block < a.heap.size → S p.block) : Ext S a (b.setCell p v) :=
  h.trans (T := fun x => x = p.block) ⟨rfl, rfl, rfl, by simp [World.setCell], fun k _ hk => Below.heap_setCell _ _ _ _ (fun e => hk e)⟩ (fun x hx e => by subst e; exact hp hx)
theorem Ext.grown {S : Foot} {a b c : World} (h : Ext S a b) {row : Option Nat} (hg : b.grownBy c row) (hr : ∀ k, row = some k → k < a.heap.size → S k) : Ext S a c :=
  h.trans (T := fun x => some x = row) ⟨hg.os, hg.tape, hg.output, hg.size, fun k hk hn => hg.block k hk hn⟩ (fun x hx e => hr x e.symm hx)
theorem Ext.ofBelow {a b : World} (h : Below a.heap.size a b) : Ext noFoot a b := ⟨h.os, h.tape, h.output, h.size, fun x hx _ => h.block x hx⟩
theorem Ext.below {a b : World} (h : Ext noFoot a b) : Below a.heap.size a b := ⟨h.os, h.tape, h.output, h.size, fun x hx => h.same x hx (fun h => h)⟩
theorem Ext.cell {S : Foot} {a b : World} (h : Ext S a b) {x i : Nat} (hx : x < a.heap.size) (hs : ¬ S x) : b.cell? ⟨x, i, none⟩ = a.cell? ⟨x, i, none⟩ := World.cell?_of_block (h.same x hx hs)
theorem Ext.frozen {S : Foot} {a b : World} (h : Ext S a b) {x i : Nat} (hx : x < a.heap.size) (hs : ¬ S x) : b.frozen? ⟨x, i, none⟩ = a.frozen? ⟨x, i, none⟩ := World.frozen?_of_block (h.same x hx hs)
theorem Ext.cellP {a b : World} (h : Ext noFoot a b) {p : Addr} {v : Value} (hc : a.cell? p = some v) : b.cell? p = some v := by
  have hlt := World.block_lt_of_cell? a p hc
  exact (World.cell?_of_block (h.same p.block hlt (fun h => h))).trans hc
theorem Ext.block {S : Foot} {a b : World} (h : Ext S a b) {x : Nat} {o : Obj} (hb : a.heap[x]? = some o) (hs : ¬ S x) : b.heap[x]? = some o :=
  (h.same x (Array.getElem?_eq_some_iff.1 hb).1 hs).trans hb

/-- The cells of a block that is known whole. -/
theorem cells_of {w : World} {b : Nat} {C : Array Value} {t : TypeId} {fr : Nat × Nat} (h : w.heap[b]? = some (.cells C t fr)) (i : Nat) : w.cell? ⟨b, i, none⟩ = C[i]? := by simp [World.cell?, h]
theorem free_of {w : World} {b : Nat} {C : Array Value} {t : TypeId} (h : w.heap[b]? = some (.cells C t (0, 0))) (i : Nat) : w.frozen? ⟨b, i, none⟩ = false := by simp [World.frozen?, h]
theorem lt_of {w : World} {b : Nat} {o : Obj} (h : w.heap[b]? = some o) : b < w.heap.size := (Array.getElem?_eq_some_iff.1 h).1
theorem set_of {w : World} {b : Nat} {C : Array Value} {t : TypeId} {fr : Nat × Nat} (h : w.heap[b]? = some (.cells C t fr)) (i : Nat) (v : Value) :
    (w.setCell ⟨b, i, none⟩ v).heap[b]? = some (.cells (C.setIfInBounds i v) t fr) := by
  simp [World.setCell, Array.getElem?_modify, h]
theorem set_other {w : World} {b : Nat} (p : Addr) (v : Value) (h : b ≠ p.block) : (w.setCell p v).heap[b]? = w.heap[b]? := Below.heap_setCell _ _ _ _ h
theorem alloc_at (w : World) (o : Obj) : (w.alloc o).heap[w.heap.size]? = some o := by show (w.heap.push o)[w.heap.size]? = some o; simp
theorem alloc_other (w : World) (o : Obj) {b : Nat} (h : b < w.heap.size) : (w.alloc o).heap[b]? = w.heap[b]? := Below.heap_alloc _ _ _ h

/-! ### Slices that are read -/
/-- From A on the cells of w hold vals; the block is one of F. -/
def SegAt (w : World) (F : Foot) (A : Option Addr) (vals : List Value) : Prop :=
  vals = [] ∨ ∃ b o, A = some ⟨b, o, none⟩ ∧ F b ∧ b < w.heap.size ∧ ∀ j, j < vals.length → w.cell? ⟨b, o + j, none⟩ = vals[j]?
theorem SegAt.nil (w : World) (F : Foot) (A : Option Addr) : SegAt w F A [] := .inl rfl
theorem SegAt.keep {w w' : World} {F F' S : Foot} {A : Option Addr} {vals : List Value} (h : SegAt w F A vals) (e : Ext S w w') (hs : ∀ b, b < w.heap.size → F b → ¬ S b) (hf : ∀ b, b < w.heap.size → F b → F' b) : SegAt w' F' A vals := by
  rcases h with h | ⟨b, o, hA, hF, hb, hc⟩
  · exact .inl h
  · exact .inr ⟨b, o, hA, hf b hb hF, Nat.lt_of_lt_of_le hb e.size, fun j hj => (e.cell hb (hs b hb hF)).trans (hc j hj)⟩
theorem SegAt.form {w : World} {F : Foot} {A : Option Addr} {vals : List Value} (h : SegAt w F A vals) {j : Nat} (hj : j < vals.length) : ∃ b o, A = some ⟨b, o, none⟩ ∧ F b ∧ b < w.heap.size ∧ ∀ j, j < vals.length → w.cell? ⟨b, o + j, none⟩ = vals[j]? := by
  rcases h with h | h
  · subst h; simp at hj
  · exact h
/-- A cut of what is there: from cell k on. -/
theorem SegAt.drop {w : World} {F : Foot} {A : Option Addr} {vals : List Value} (h : SegAt w F A vals) (k : Nat) : SegAt w F (A.map (·.add k)) (vals.drop k) := by
  rcases h with h | ⟨b, o, hA, hF, hb, hc⟩
  · subst h; exact .inl (by simp)
  · refine .inr ⟨b, o + k, ?_, hF, hb, fun j hj => ?_⟩
    · rw [hA]
      show some _ = _
      congr 1
      unfold Addr.add; split <;> simp_all
    · rw [List.getElem?_drop, ← hc (k + j) (by simp at hj; omega), Nat.add_assoc]
theorem SegAt.take {w : World} {F : Foot} {A : Option Addr} {vals : List Value} (h : SegAt w F A vals) (k : Nat) : SegAt w F A (vals.take k) := by
  rcases h with h | ⟨b, o, hA, hF, hb, hc⟩
  · subst h; exact .inl (by simp)
  · refine .inr ⟨b, o, hA, hF, hb, fun j hj => ?_⟩
    have hj' : j < k ∧ j < vals.length := by simp at hj; omega
    rw [hc j hj'.2, List.getElem?_take, if_pos hj'.1]
theorem SegAt.news {w : World} {F : Foot} {A : Option Addr} {vals : List Value} (h : SegAt w F A vals) {a : Addr} (hA : A = some a) : ∀ j u, vals[j]? = some u → w.cell? (a.add j) = some u := by
  intro j u hu
  rcases h with h | ⟨b, o, hA', hF, hb, hc⟩
  · subst h; simp at hu
  · have hj : j < vals.length := (List.getElem?_eq_some_iff.1 hu).1
    obtain rfl : a = ⟨b, o, none⟩ := by rw [hA] at hA'; exact Option.some.inj hA'
    have e : (⟨b, o, none⟩ : Addr).add j = ⟨b, o + j, none⟩ := by unfold Addr.add; split <;> simp_all
    rw [e, hc j hj, hu]

/-- v is a slice of n elements, of k cells each, which read vals. -/
def SlAt (w : World) (F : Foot) (v : Value) (n k : Nat) (vals : List Value) : Prop :=
  ∃ A c, v = .slice A n c ∧ n ≤ c ∧ c ≤ maxLen ∧ (A = none → c = 0) ∧ vals.length = n * k ∧ SegAt w F A vals
theorem SlAt.keep {w w' : World} {F F' S : Foot} {v : Value} {n k : Nat} {vals : List Value} (h : SlAt w F v n k vals) (e : Ext S w w') (hs : ∀ b, b < w.heap.size → F b → ¬ S b) (hf : ∀ b, b < w.heap.size → F b → F' b) : SlAt w' F' v n k vals := by
  obtain ⟨A, c, h1, h2, h3, h0, h4, h5⟩ := h
  exact ⟨A, c, h1, h2, h3, h0, h4, h5.keep e hs hf⟩
theorem SlAt.later {w w' : World} {F : Foot} {v : Value} {n k : Nat} {vals : List Value} (h : SlAt w F v n k vals) (e : Ext noFoot w w') : SlAt w' F v n k vals := h.keep e (fun _ _ _ h => h) (fun _ _ h => h)
/-- What an owned row holds can be read. -/
theorem SlAt.ofOwn {w : World} {F : Foot} {base e size n : Nat} {v : Value} {xs : List Value} (h : w.ownsRow base e size v n xs) (hF : ∀ g, v.ownBlock = some g → F g) : SlAt w F v n size xs := by
  obtain ⟨hl, h | ⟨g, cap, cur, rfl, hg, hh, h1, h2, h3, h4⟩⟩ := h
  · obtain ⟨rfl, rfl⟩ := h
    refine ⟨none, 0, rfl, Nat.le_refl _, Nat.zero_le _, fun _ => rfl, hl, .inl ?_⟩
    simpa using hl
  · refine ⟨_, cap, rfl, h1, h2, fun h => by simp at h, hl, .inr ⟨g, 0, rfl, hF g rfl, lt_of hh, fun j hj => ?_⟩⟩
    rw [Nat.zero_add, cells_of hh, ← h4, List.getElem?_take, if_pos (by omega)]
    simp

/-- A byte's value. -/
def byteV (x : UInt8) : Value := .int .u8 x.toNat
def bytesV (l : List UInt8) : List Value := l.map byteV
theorem bytesV_length (l : List UInt8) : (bytesV l).length = l.length := by simp [bytesV]
theorem bytesV_get (l : List UInt8) (j : Nat) (h : j < l.length) : (bytesV l)[j]? = some (.int .u8 (l[j]'h).toNat) := by simp [bytesV, byteV, h]
theorem bytesV_append (l k : List UInt8) : bytesV (l ++ k) = bytesV l ++ bytesV k := by simp [bytesV]
theorem bytesV_take (l : List UInt8) (n : Nat) : (bytesV l).take n = bytesV (l.take n) := by simp [bytesV, List.map_take]
theorem bytesV_drop (l : List UInt8) (n : Nat) : (bytesV l).drop n = bytesV (l.drop n) := by simp [bytesV, List.map_drop]
theorem bytesV_one (l : List UInt8) : ∀ u ∈ bytesV l, u.oneCell' = true := by
  intro u hu
  simp only [bytesV, List.mem_map] at hu
  obtain ⟨x, _, rfl⟩ := hu
  rfl
/-- v is a slice of the bytes bs. -/
def BytesAt (w : World) (F : Foot) (v : Value) (bs : List UInt8) : Prop := SlAt w F v bs.length 1 (bytesV bs)
theorem BytesAt.keep {w w' : World} {F F' S : Foot} {v : Value} {bs : List UInt8} (h : BytesAt w F v bs) (e : Ext S w w') (hs : ∀ b, b < w.heap.size → F b → ¬ S b) (hf : ∀ b, b < w.heap.size → F b → F' b) : BytesAt w' F' v bs := SlAt.keep h e hs hf
theorem BytesAt.later {w w' : World} {F : Foot} {v : Value} {bs : List UInt8} (h : BytesAt w F v bs) (e : Ext noFoot w w') : BytesAt w' F v bs := SlAt.later h e
theorem BytesAt.nil (w : World) (F : Foot) : BytesAt w F (.slice none 0 0) [] := ⟨none, 0, rfl, Nat.le_refl _, Nat.zero_le _, fun _ => rfl, rfl, .inl rfl⟩
theorem BytesAt.open {w : World} {F : Foot} {v : Value} {bs : List UInt8} (h : BytesAt w F v bs) : ∃ A c, v = .slice A bs.length c ∧ bs.length ≤ c ∧ c ≤ maxLen ∧ (A = none → c = 0) ∧ SegAt w F A (bytesV bs) := by
  obtain ⟨A, c, h1, h2, h3, h0, _, h5⟩ := h
  exact ⟨A, c, h1, h2, h3, h0, h5⟩
theorem BytesAt.mk {w : World} {F : Foot} {A : Option Addr} {c : Nat} {bs : List UInt8} (n : Nat) (hn : n = bs.length) (h2 : n ≤ c) (h3 : c ≤ maxLen) (h0 : A = none → c = 0) (h5 : SegAt w F A (bytesV bs)) : BytesAt w F (.slice A n c) bs := by
  subst hn
  exact ⟨A, c, rfl, h2, h3, h0, by simp [bytesV], h5⟩

theorem own_form {w : World} {base e size n : Nat} {v : Value} {xs : List Value} (h : w.ownsRow base e size v n xs) : ∃ A c, v = .slice A n c := by
  rcases h.2 with ⟨rfl, rfl⟩ | ⟨g, cap, cur, rfl, _⟩
  · exact ⟨none, 0, rfl⟩
  · exact ⟨_, cap, rfl⟩

/-! ### append to a row of one's own -/
/-- What is to be known of a slice type t of elements e, of so many cells and bytes each. -/
structure ElemT (P : Program) (t e : TypeId) (size bytes : Nat) : Prop where
  und : P.underlying t = some (.slice e)
  info : ∃ i z, P.info? e = some i ∧ i.zero = some z ∧ i.size = size ∧ i.bytes = bytes ∧ z.cells.size = size
  pos : 0 < size
theorem ElemT.mk' {P : Program} {t e : TypeId} {z : Value} {size bytes : Nat} (und : P.underlying t = some (.slice e)) (h : (P.info? e).map (fun i => (i.zero, i.size, i.bytes)) = some (some z, size, bytes)) (hz : z.cells.size = size) (pos : 0 < size) : ElemT P t e size bytes := by
  obtain ⟨i, h1, h2, h3, h4⟩ := info_parts h
  exact ⟨und, ⟨i, z, h1, h2, h3, h4, hz⟩, pos⟩
theorem own_lt {w : World} {base e size n : Nat} {v : Value} {xs : List Value} (h : w.ownsRow base e size v n xs) (k : Nat) (hk : v.ownBlock = some k) : k < w.heap.size := by
  rcases h.2 with ⟨rfl, _⟩ | ⟨g, cap, cur, rfl, _, hh, _⟩
  · simp [Value.ownBlock] at hk
  · obtain rfl : g = k := by simpa [Value.ownBlock] using hk
    exact lt_of hh
/-- A row of another element type lies in another block. -/
theorem own_ne {w : World} {base e size n p : Nat} {v : Value} {xs : List Value} {C : Array Value} {t : TypeId} {fr : Nat × Nat} (h : w.ownsRow base e size v n xs) (hp : w.heap[p]? = some (.cells C t fr)) (hte : (t == e) = false) : some p ≠ v.ownBlock := by
  intro he
  rcases h.2 with ⟨rfl, _⟩ | ⟨g, cap, cur, rfl, _, hh, _⟩
  · simp [Value.ownBlock] at he
  · obtain rfl : p = g := by simpa [Value.ownBlock] using he
    rw [hh] at hp
    injection hp with hp
    injection hp with _ ht
    simp [ht] at hte
theorem own_setCell {w : World} {base e size n : Nat} {v : Value} {xs : List Value} (h : w.ownsRow base e size v n xs) (p : Addr) (u : Value) (hp : some p.block ≠ v.ownBlock) : (w.setCell p u).ownsRow base e size v n xs := by
  obtain ⟨h1, h2⟩ := h
  refine ⟨h1, ?_⟩
  rcases h2 with h2 | ⟨g, cap, cur, rfl, hg, hh, r⟩
  · exact .inl h2
  · exact .inr ⟨g, cap, cur, rfl, hg, by rw [set_other _ _ (fun e => hp (by rw [← e]; rfl))]; exact hh, r⟩
/-- A block that an append to another row leaves alone. -/
theorem grown_block {w w1 : World} {row : Option Nat} {p : Nat} {o : Obj} (hg : w.grownBy w1 row) (hp : w.heap[p]? = some o) (hne : some p ≠ row) : w1.heap[p]? = some o := (hg.block p (lt_of hp) hne).trans hp
theorem alloc_block {w : World} {p : Nat} {o : Obj} (x : Obj) (hp : w.heap[p]? = some o) : (w.alloc x).heap[p]? = some o := (alloc_other w x (lt_of hp)).trans hp
/-- All blocks still to come are of S. -/
def Young (S : Foot) (w : World) : Prop := ∀ b, w.heap.size ≤ b → S b
theorem Young.later {S T : Foot} {w w' : World} (h : Young S w) (e : Ext T w w') : Young S w' := fun b hb => h b (Nat.le_trans e.size hb)
theorem Young.alloc {S : Foot} {w : World} (h : Young S w) (o : Obj) : Young S (w.alloc o) := fun b hb => h b (by simp at hb; omega)
/-- A row of one's own, in a block of S. -/
def OwnAt (w : World) (S : Foot) (e size : Nat) (v : Value) (n : Nat) (xs : List Value) : Prop := w.ownsRow 0 e size v n xs ∧ ∀ g, v.ownBlock = some g → S g
theorem OwnAt.slAt {w : World} {S : Foot} {e size n : Nat} {v : Value} {xs : List Value} (h : OwnAt w S e size v n xs) : SlAt w S v n size xs := SlAt.ofOwn h.1 h.2
theorem OwnAt.form {w : World} {S : Foot} {e size n : Nat} {v : Value} {xs : List Value} (h : OwnAt w S e size v n xs) : ∃ A c, v = .slice A n c := own_form h.1
theorem OwnAt.mono {w : World} {S T : Foot} {e size n : Nat} {v : Value} {xs : List Value} (h : OwnAt w S e size v n xs) (hT : ∀ b, b < w.heap.size → S b → T b) : OwnAt w T e size v n xs :=
  ⟨h.1, fun g hg => hT g (own_lt h.1 g hg) (h.2 g hg)⟩
theorem OwnAt.ext {w w' : World} {S T : Foot} {e size n : Nat} {v : Value} {xs : List Value} (h : OwnAt w S e size v n xs) (x : Ext T w w') (hT : ∀ g, v.ownBlock = some g → ¬ T g) : OwnAt w' S e size v n xs := by
  refine ⟨⟨h.1.1, ?_⟩, h.2⟩
  rcases h.1.2 with h2 | ⟨g, cap, cur, rfl, hg, hh, r⟩
  · exact .inl h2
  · exact .inr ⟨g, cap, cur, rfl, hg, x.block hh (hT g rfl), r⟩
theorem OwnAt.alloc {w : World} {S : Foot} {e size n : Nat} {v : Value} {xs : List Value} (h : OwnAt w S e size v n xs) (o : Obj) : OwnAt (w.alloc o) S e size v n xs := ⟨h.1.alloc o, h.2⟩
theorem OwnAt.nil (w : World) (S : Foot) (e size : Nat) : OwnAt w S e size (.slice none 0 0) 0 [] := ⟨⟨by simp, .inl ⟨rfl, rfl⟩⟩, fun g hg => by simp [Value.ownBlock] at hg⟩
theorem OwnAt.ne {w : World} {S : Foot} {e size n p : Nat} {v : Value} {xs : List Value} {C : Array Value} {t : TypeId} {fr : Nat × Nat} (h : OwnAt w S e size v n xs) (hp : w.heap[p]? = some (.cells C t fr)) (hte : (t == e) = false) : some p ≠ v.ownBlock := own_ne h.1 hp hte
theorem OwnAt.setCell {w : World} {S : Foot} {e size n : Nat} {v : Value} {xs : List Value} (h : OwnAt w S e size v n xs) (p : Addr) (u : Value) (hp : some p.block ≠ v.ownBlock) : OwnAt (w.setCell p u) S e size v n xs := ⟨own_setCell h.1 p u hp, h.2⟩
/-- An empty row, or a whole one, just laid in a block of its own. -/
theorem OwnAt.lit (w : World) (S : Foot) (e size n : Nat) (cs : Array Value) (hs : cs.size = n * size) (hm : n ≤ maxLen) (hy : Young S w) : OwnAt (w.alloc (.cells cs e)) S e size (.slice (some ⟨w.heap.size, 0, none⟩) n n) n cs.toList :=
  ⟨World.ownsRow_lit w cs n (Nat.zero_le _) hm hs, fun g hg => by
    have : w.heap.size = g := by simpa [Value.ownBlock] using hg
    exact hy g (by omega)⟩

/-- What an append asks besides. -/
def AppSide (n m bytes : Nat) (news : List Value) : Prop := (∀ z ∈ news, z.oneCell' = true) ∧ (n + m) * bytes ≤ 140737488355328 ∧ n + m ≤ maxLen
theorem run_app {P : Program} (w : World) (ty : TypeId) {t e : TypeId} {size bytes : Nat} (E : ElemT P t e size bytes) {S : Foot} {v : Value} {n : Nat} {xs : List Value} (hown : OwnAt w S e size v n xs)
    {F : Foot} {u : Value} {m : Nat} {news : List Value} (hsl : SlAt w F u m size news) (hy : Young S w) (hside : AppSide n m bytes news) :
    ∃ A' c' w', (Builtin.append_ #[t, t] ty #[v, u]).run P w = .ok (.slice A' (n + m) c') w' ∧ OwnAt w' S e size (.slice A' (n + m) c') (n + m) (xs ++ news) ∧ w.grownBy w' v.ownBlock := by
  obtain ⟨h1, hbytes, h63⟩ := hside
  obtain ⟨i, z, hi, hz, hsz, hby, hzs⟩ := E.info
  obtain ⟨A, c, rfl, hc1, hc2, hc0, hl, hseg⟩ := hsl
  cases A with
  | none =>
    have hc := hc0 rfl
    obtain rfl : m = 0 := by omega
    obtain rfl : news = [] := by simpa using hl
    subst hc
    obtain ⟨A', c', rfl⟩ := hown.form
    exact ⟨A', c', w, run_append_owned_none w 0 t ty e i size E.und hi _ n xs hown.1, by simpa using hown, ⟨rfl, rfl, rfl, Nat.le_refl _, fun _ _ _ => rfl⟩⟩
  | some ad =>
    obtain ⟨v', w', hr, h2, h3, _, h5⟩ := run_append_own_at (P := P) w 0 t ty e i z size bytes E.und hi hz hsz hby hzs E.pos v n xs hown.1 ad m c news hl (hseg.news rfl) h1 h63 hbytes (Nat.zero_le _)
    obtain ⟨A', c', rfl⟩ := own_form h2
    refine ⟨A', c', w', hr, ⟨h2, fun g hg => ?_⟩, h3⟩
    rcases h5 with h5 | h5
    · exact hown.2 g (h5 ▸ hg)
    · rw [h5] at hg
      have : w.heap.size = g := by simpa using hg
      exact hy g (by omega)
section
variable {P : Program} {w : World} {ops : Array Oper} {rest : List Oper} {o : Oper} {a : Act} {Q : Exit → Act → World → Prop} {t e : TypeId} {size bytes : Nat} {S : Foot} {v : Value} {n : Nat} {xs : List Value} {F : Foot} {u : Value} {m : Nat} {news : List Value}
theorem wp_app {K : Act → World → Prop} (E : ElemT P t e size bytes) (s x : Operand)
    (ho : o.op = .call { callee := .builtin .append, args := #[s, x], argTypes := #[t, t] }) (hs : a.eval s = v) (hown : OwnAt w S e size v n xs) (hx : a.eval x = u) (hsl : SlAt w F u m size news) (hy : Young S w)
    (h : ∀ A' c' w', OwnAt w' S e size (.slice A' (n + m) c') (n + m) (xs ++ news) → w.grownBy w' v.ownBlock → K (a.put o.dst (.slice A' (n + m) c')) w') (hside : AppSide n m bytes news) : o.wp P a w K Q := by
  obtain ⟨A', c', w', hr, h2, h3⟩ := run_app w o.type E hown hsl hy hside
  unfold Oper.wp execOp
  simp only [ho, resolve, invoke, builtin, Sem.run_bind, Sem.run_pure, Result.andThen_ok, List.map_toArray, List.map_cons, List.map_nil, hs, hx, hr]
  exact h A' c' w' h2 h3
theorem wpList_app (E : ElemT P t e size bytes) (hgd : o.guard = none) (s x : Operand)
    (ho : o.op = .call { callee := .builtin .append, args := #[s, x], argTypes := #[t, t] }) (hs : a.eval s = v) (hown : OwnAt w S e size v n xs) (hx : a.eval x = u) (hsl : SlAt w F u m size news) (hy : Young S w)
    (h : ∀ A' c' w', OwnAt w' S e size (.slice A' (n + m) c') (n + m) (xs ++ news) → w.grownBy w' v.ownBlock → wpList P ops Q rest (a.put o.dst (.slice A' (n + m) c')) w') (hside : AppSide n m bytes news) : wpList P ops Q (o :: rest) a w :=
  wpList_plain hgd fun _ hK => wp_app E s x ho hs hown hx hsl hy (fun A' c' w' h2 h3 => hK _ _ (h A' c' w' h2 h3)) hside
theorem step_app {K : Act → World → Prop} {Z : Prop} (E : ElemT P t e size bytes) (hgd : o.guard = none) (s x : Operand)
    (ho : o.op = .call { callee := .builtin .append, args := #[s, x], argTypes := #[t, t] }) (hs : a.eval s = v) (hown : OwnAt w S e size v n xs) (hx : a.eval x = u) (hsl : SlAt w F u m size news) (hy : Young S w) (hside : AppSide n m bytes news)
    (h : ∀ A' c' w', OwnAt w' S e size (.slice A' (n + m) c') (n + m) (xs ++ news) → w.grownBy w' v.ownBlock → K (a.put o.dst (.slice A' (n + m) c')) w') :
    if Region.wanted o (yielded ops a.tmps) = true then Oper.wp P o a w K Q else Z := by
  have hw : Region.wanted o (yielded ops a.tmps) = true := by simp [Region.wanted, hgd]
  rw [if_pos hw]
  exact wp_app E s x ho hs hown hx hsl hy h hside
end
/-- A slice literal that was just laid in a block of its own. -/
theorem SlAt.lit (w : World) (F : Foot) (C : Array Value) (t : TypeId) (n k : Nat) (hC : C.size = n * k) (hn : n ≤ maxLen) (hF : F w.heap.size) : SlAt (w.alloc (.cells C t)) F (.slice (some ⟨w.heap.size, 0, none⟩) n n) n k C.toList := by
  refine ⟨_, n, rfl, Nat.le_refl _, hn, fun h => by simp at h, by simpa using hC, .inr ⟨w.heap.size, 0, rfl, hF, ?_, fun j hj => ?_⟩⟩
  · show w.heap.size < (w.heap.push _).size
    simp
  · rw [Nat.zero_add, cells_of (alloc_at w _)]
    simp
theorem bytesV_app (a b : List UInt8) : bytesV a ++ bytesV b = bytesV (a ++ b) := (bytesV_append a b).symm
/-- Side conditions of an append of bytes. -/
theorem AppSide.bytes {n m : Nat} {l : List Value} {bs : List UInt8} (hl : l = bytesV bs) (hn : n ≤ 70368744177664) (hm : m ≤ 70368744177664) : AppSide n m 1 l := by
  subst hl
  refine ⟨bytesV_one bs, by omega, by unfold maxLen; omega⟩
theorem own_bytes {w : World} {base n : Nat} {e : TypeId} {v : Value} {l : List Value} {bs : List UInt8} (h : w.ownsRow base e 1 v n l) (hl : l = bytesV bs) : w.ownsRow base e 1 v bs.length (bytesV bs) := by
  subst hl
  have := h.1
  simp [bytesV] at this
  rw [this]; exact h
theorem OwnAt.bytes {w : World} {S : Foot} {n e : Nat} {v : Value} {l : List Value} {bs : List UInt8} (h : OwnAt w S e 1 v n l) (hl : l = bytesV bs) : OwnAt w S e 1 v bs.length (bytesV bs) := ⟨own_bytes h.1 hl, h.2⟩
theorem BytesAt.ofOwnAt {w : World} {S : Foot} {e : Nat} {v : Value} {bs : List UInt8} (h : OwnAt w S e 1 v bs.length (bytesV bs)) : BytesAt w S v bs := h.slAt
theorem Ext.grownAt {S : Foot} {e size n : Nat} {a w w' : World} {v : Value} {xs : List Value} (h : Ext S a w) (hown : OwnAt w S e size v n xs) (hg : w.grownBy w' v.ownBlock) : Ext S a w' := h.grown hg (fun k hk _ => hown.2 k hk)
theorem own_base' {w : World} {base e size n : Nat} {v : Value} {xs : List Value} (h : w.ownsRow base e size v n xs) : ∀ k, v.ownBlock = some k → base ≤ k := by
  intro k hk
  rcases h.2 with ⟨rfl, _⟩ | ⟨g, cap, cur, rfl, hb, _⟩
  · simp [Value.ownBlock] at hk
  · have : g = k := by simpa [Value.ownBlock] using hk
    omega
/-- A cut of a slice. -/
theorem SlAt.cut {w : World} {F : Foot} {A : Option Addr} {n c k : Nat} {vals : List Value} (h : SlAt w F (.slice A n c) n k vals) (l r : Nat) (hl : l ≤ r) (hr : r ≤ n) : SlAt w F (sliced A l r c k) (r - l) k ((vals.take (r * k)).drop (l * k)) := by
  obtain ⟨A', c', he, h2, h3, h0, h4, h5⟩ := h
  injection he with e1 e2 e3
  subst e1 e3
  have hs := (h5.take (r * k)).drop (l * k)
  have hlen : ((vals.take (r * k)).drop (l * k)).length = (r - l) * k := by
    have : r * k ≤ n * k := Nat.mul_le_mul_right _ hr
    rw [List.length_drop, List.length_take, h4, Nat.min_eq_left this, Nat.sub_mul]
  unfold sliced
  refine ⟨_, _, rfl, by omega, by omega, ?_, hlen, ?_⟩
  · intro hn
    by_cases e : c = l
    · omega
    · rw [if_neg e] at hn
      have : A = none := by simpa using hn
      have := h0 this
      omega
  · by_cases e : c = l
    · rw [if_pos e]
      have : r - l = 0 := by omega
      rw [this, Nat.zero_mul] at hlen
      rw [List.eq_nil_of_length_eq_zero hlen]
      exact .nil _ _ _
    · rw [if_neg e]; exact hs
theorem BytesAt.cut {w : World} {F : Foot} {A : Option Addr} {n c : Nat} {bs : List UInt8} (h : BytesAt w F (.slice A n c) bs) (l r : Nat) (hl : l ≤ r) (hr : r ≤ bs.length) : BytesAt w F (sliced A l r c 1) ((bs.take r).drop l) := by
  have hn : n = bs.length := by
    obtain ⟨A', c', he, _⟩ := h
    injection he
  subst hn
  have := SlAt.cut h l r hl hr
  rw [Nat.mul_one, Nat.mul_one, bytesV_take, bytesV_drop] at this
  unfold BytesAt
  rw [List.length_drop, List.length_take, Nat.min_eq_left hr]
  exact this
/-- An empty row in a block of its own. -/
theorem own_empty (w : World) (e size : Nat) (base : Nat) (hb : base ≤ w.heap.size) : (w.alloc (.cells #[] e)).ownsRow base e size (.slice (some ⟨w.heap.size, 0, none⟩) 0 0) 0 [] :=
  World.ownsRow_lit w #[] 0 hb (Nat.zero_le _) (by simp)
theorem BytesAt.ofOwn {w : World} {F : Foot} {base e : Nat} {v : Value} {bs : List UInt8} (h : w.ownsRow base e 1 v bs.length (bytesV bs)) (hF : ∀ g, v.ownBlock = some g → F g) : BytesAt w F v bs := SlAt.ofOwn h hF
theorem own_below {w w1 : World} {base e size n : Nat} {v : Value} {xs : List Value} (h : w.ownsRow base e size v n xs) (hb : Below w.heap.size w w1) : w1.ownsRow base e size v n xs :=
  h.kept (row := none) ⟨hb.os, hb.tape, hb.output, hb.size, fun i hi _ => hb.block i hi⟩ (by cases v.ownBlock <;> simp)
theorem u64_wrap {n : Nat} (h : n < 4294967296) : IntKind.u64.wrap (n : Int) = n := IntWalk.u64_in _ (by omega)
/-- One block. -/
def one (p : Nat) : Foot := fun b => b = p
theorem SlAt.head {w : World} {F : Foot} {A : Option Addr} {n c k : Nat} {vals : List Value} (h : SlAt w F (.slice A n c) n k vals) (r : Nat) (hr : r ≤ n) : SlAt w F (.slice A r c) r k (vals.take (r * k)) := by
  obtain ⟨A', c', he, h2, h3, h0, h4, h5⟩ := h
  injection he with e1 e2 e3
  subst e1 e3
  refine ⟨A, c, rfl, by omega, h3, h0, ?_, h5.take _⟩
  have : r * k ≤ n * k := Nat.mul_le_mul_right _ hr
  rw [List.length_take, h4, Nat.min_eq_left this]
theorem BytesAt.head {w : World} {F : Foot} {A : Option Addr} {n c : Nat} {bs : List UInt8} (h : BytesAt w F (.slice A n c) bs) (r : Nat) (hr : r ≤ bs.length) : BytesAt w F (.slice A r c) (bs.take r) := by
  have hn : n = bs.length := by
    obtain ⟨A', c', he, _⟩ := h
    injection he
  subst hn
  have := SlAt.head h r hr
  rw [Nat.mul_one, bytesV_take] at this
  unfold BytesAt
  rw [List.length_take, Nat.min_eq_left hr]
  exact this
/-- Four results. -/
theorem results_tmp4 {fn : Func} {t u v x : Tmp} (h : fn.results = #[.tmp t, .tmp u, .tmp v, .tmp x]) (tmps : Array Value) (P : Program) (w : World) :
    (results fn tmps).run P w = .ok (.tuple #[tmps.getD t undef, tmps.getD u undef, tmps.getD v undef, tmps.getD x undef]) w := by
  simp [results, h]
theorem OwnAt.cell {w : World} {S : Foot} {e size n c : Nat} {A : Option Addr} {xs : List Value} (h : OwnAt w S e size (.slice A n c) n xs) {j : Nat} (hj : j < xs.length) :
    ∃ g, A = some ⟨g, 0, none⟩ ∧ S g ∧ g < w.heap.size ∧ (∀ j, j < xs.length → w.cell? ⟨g, j, none⟩ = xs[j]?) ∧ ∀ j, w.frozen? ⟨g, j, none⟩ = false := by
  obtain ⟨⟨h1, h2⟩, h3⟩ := h
  rcases h2 with ⟨hv, hn⟩ | ⟨g, cap, cur, hv, hg, hh, hc1, hc2, hc3, hc4⟩
  · subst hn; simp at h1; simp [h1] at hj
  · injection hv with e1 e2 e3
    subst e1 e3
    refine ⟨g, rfl, h3 g rfl, lt_of hh, fun j hj => ?_, fun j => free_of hh j⟩
    rw [cells_of hh, ← hc4, List.getElem?_take, if_pos (by omega)]
    simp
/-- A store into a row of one's own. -/
theorem OwnAt.store {w : World} {S : Foot} {e size n c g : Nat} {xs : List Value} (h : OwnAt w S e size (.slice (some ⟨g, 0, none⟩) n c) n xs) (j : Nat) (u : Value) (hj : j < xs.length) :
    OwnAt (w.setCell ⟨g, j, none⟩ u) S e size (.slice (some ⟨g, 0, none⟩) n c) n (xs.set j u) := by
  obtain ⟨⟨h1, h2⟩, h3⟩ := h
  refine ⟨⟨by simpa using h1, ?_⟩, h3⟩
  rcases h2 with ⟨hv, hn⟩ | ⟨g', cap, cur, hv, hg, hh, hc1, hc2, hc3, hc4⟩
  · simp at hv
  · injection hv with e1 e2 e3
    injection e1 with e1
    injection e1 with e1
    subst e1 e3
    refine .inr ⟨g, c, cur.setIfInBounds j u, rfl, hg, set_of hh j u, hc1, hc2, by simpa using hc3, ?_⟩
    rw [Array.toList_setIfInBounds, List.take_set, hc4]
theorem Ext.setOwn {S : Foot} {a w : World} {e size n c g : Nat} {xs : List Value} (h : Ext S a w) (hown : OwnAt w S e size (.slice (some ⟨g, 0, none⟩) n c) n xs) (j : Nat) (u : Value) : Ext S a (w.setCell ⟨g, j, none⟩ u) := h.setCell _ _ (fun _ => hown.2 g rfl)
end Go.Proofs.Ytmicclopokpgoaa
