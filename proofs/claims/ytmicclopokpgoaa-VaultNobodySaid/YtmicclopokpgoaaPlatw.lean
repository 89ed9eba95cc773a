/- Package platter: what writes to disks. -/
import Derived.Test.YtmicclopokpgoaaPlat
import Derived.Deep.RegionLaw
namespace Go.Proofs.Ytmicclopokpgoaa
open Go.RowKit
set_option linter.unusedVariables false
set_option linter.unusedSimpArgs false

theorem AppSide.w {n : Nat} {c : Int} {A : Option Addr} {m k : Nat} (h : n ≤ 1000000) : AppSide n 1 32 (#[Value.int .i64 c, .slice A m k].toList) := by
  refine ⟨?_, by omega, by unfold maxLen; omega⟩
  intro z hz
  simp at hz
  rcases hz with rfl | rfl <;> rfl

/-- A write, that isn't safe yet. -/
def Dk.write (D : Dk) (c : Nat) (b : List UInt8) : Dk := { D with loose := D.loose ++ [(c, b)] }

/-- Rows of unlike element types lie in unlike blocks. -/
theorem OwnAt.apart {w : World} {S T : Foot} {e e' size size' n n' : Nat} {v v' : Value} {xs xs' : List Value} (h : OwnAt w S e size v n xs) (h' : OwnAt w T e' size' v' n' xs') (hte : (e == e') = false) : ∀ g, v.ownBlock = some g → v'.ownBlock = some g → False := by
  intro g hg hg'
  rcases h.1.2 with ⟨rfl, _⟩ | ⟨g1, cap, cur, rfl, _, hh, _⟩
  · simp [Value.ownBlock] at hg
  · obtain rfl : g1 = g := by simpa [Value.ownBlock] using hg
    exact h'.ne hh hte hg'.symm

theorem dwrite_end {w w1 w2 : World} {S : Foot} {p c ca cb c1 c2 : Nat} {D : Dk} {A B A1 A2 : Option Addr} {y : Int} {vs : List Value} {lv : List (Nat × Value)} {b : List UInt8} (hS : Young S w) (hok : D.ok)
    (h : DiskRows w S p D A B ca cb y vs lv) (hc : c < D.cells.length) (hl : b.length ≤ D.size) (x1 : Ext noFoot w w1) (ho1 : OwnAt w1 (fun x => S x ∧ w.heap.size ≤ x) 5 1 (.slice A1 b.length c1) b.length (bytesV b))
    (hg2 : (w1.alloc (.cells #[.int .i64 c, .slice A1 b.length c1] 170)).grownBy w2 (Value.slice B D.loose.length cb).ownBlock)
    (ho2 : OwnAt w2 (fun x => (Value.slice B D.loose.length cb).ownBlock = some x ∨ w1.heap.size + 1 ≤ x) 170 2 (.slice A2 (D.loose.length + 1) c2) (D.loose.length + 1) (looseV lv ++ [.int .i64 c, .slice A1 b.length c1])) :
    DiskAt (w2.setCell ⟨p, 2, none⟩ (.slice A2 (D.loose.length + 1) c2)) S p (D.write c b) ∧ Ext S w (w2.setCell ⟨p, 2, none⟩ (.slice A2 (D.loose.length + 1) c2)) := by
  have hs1 := x1.size
  have x2 : Ext (fun x => (Value.slice B D.loose.length cb).ownBlock = some x) w w2 := ((x1.alloc _).mono (fun _ _ h => h.elim)).grown hg2 (fun k hk _ => hk)
  have hneB := h.rowB.ne h.blk rfl
  have hp2 := x2.block h.blk (fun e => hneB e.symm)
  have hpl := lt_of h.blk
  have x3 : Ext (fun x => (Value.slice B D.loose.length cb).ownBlock = some x ∨ x = p) w (w2.setCell ⟨p, 2, none⟩ (.slice A2 (D.loose.length + 1) c2)) := (x2.mono (fun _ _ h => .inl h)).setCell _ _ (fun _ => .inr rfl)
  have y3 : Ext (fun x => (Value.slice B D.loose.length cb).ownBlock = some x ∨ x = p) w1 (w2.setCell ⟨p, 2, none⟩ (.slice A2 (D.loose.length + 1) c2)) := (((Ext.refl _ w1).alloc _).grown hg2 (fun k hk _ => .inl hk)).setCell _ _ (fun _ => .inr rfl)
  have hAB := h.rowA.apart h.rowB rfl
  have hA2 : ∀ x, (Value.slice A2 (D.loose.length + 1) c2).ownBlock = some x → (Value.slice B D.loose.length cb).ownBlock = some x ∨ w1.heap.size + 1 ≤ x := ho2.2
  have hBS := h.rowB.2
  have hBl := fun g hg => own_lt h.rowB.1 g hg
  -- where data lie, they go on lying
  have hdat : ∀ v bs, BytesAt w (dataF S p (.slice A D.cells.length ca) (.slice B D.loose.length cb)) v bs →
      BytesAt (w2.setCell ⟨p, 2, none⟩ (.slice A2 (D.loose.length + 1) c2)) (dataF S p (.slice A D.cells.length ca) (.slice A2 (D.loose.length + 1) c2)) v bs := fun v bs hb =>
    hb.keep x3 (fun x hx hF hT => by exact hT.elim (fun hT => hF.2.2.2 hT) (fun hT => hF.2.1 hT))
      (fun x hx hF => ⟨hF.1, hF.2.1, hF.2.2.1, fun e => by
        rcases hA2 x e with e | e
        · exact hF.2.2.2 e
        · omega⟩)
  have hnew : BytesAt (w2.setCell ⟨p, 2, none⟩ (.slice A2 (D.loose.length + 1) c2)) (dataF S p (.slice A D.cells.length ca) (.slice A2 (D.loose.length + 1) c2)) (.slice A1 b.length c1) b :=
    (BytesAt.ofOwnAt ho1).keep y3 (fun x hx hF hT => by
        have := hF.2
        rcases hT with hT | hT
        · have := hBl x hT; omega
        · omega)
      (fun x hx hF => ⟨hF.1, by have := hF.2; omega, fun e => by have := own_lt h.rowA.1 x e; have := hF.2; omega, fun e => by
        have := hF.2
        rcases hA2 x e with e | e
        · have := hBl x e; omega
        · omega⟩)
  refine ⟨⟨⟨hok.1, hok.2.1, hok.2.2.1, ?_⟩, A, A2, ca, c2, y, vs, lv ++ [(c, .slice A1 b.length c1)], ⟨h.own, ?_, ?_, ?_, h.lenA, by simp [Dk.write, h.lenB], ?_, ?_⟩⟩, ?_⟩
  · intro x hx
    simp only [Dk.write, List.mem_append, List.mem_singleton] at hx
    rcases hx with hx | rfl
    · exact hok.2.2.2 x hx
    · exact ⟨hc, Nat.le_trans hl hok.1⟩
  · rw [set_of hp2]; simp [Dk.write]
  · exact h.rowA.ext x3 (fun g hg hT => by exact hT.elim (fun hT => hAB g hg hT) (fun hT => h.rowA.ne h.blk rfl (hT ▸ hg).symm))
  · have : OwnAt w2 S 170 2 (.slice A2 (D.loose.length + 1) c2) (D.loose.length + 1) (looseV (lv ++ [(c, .slice A1 b.length c1)])) := by
      rw [looseV_append]
      exact ho2.mono (fun x hx hT => by exact hT.elim (fun hT => hBS x hT) (fun hT => hS x (by omega)))
    simpa [Dk.write] using this.setCell ⟨p, 2, none⟩ _ (this.ne hp2 rfl)
  · intro i b' v h1 h2
    simpa [Dk.write] using hdat v b' (h.datA i b' v h1 h2)
  · intro i x z h1 h2
    simp only [Dk.write] at h1
    by_cases hi : i < D.loose.length
    · rw [List.getElem?_append_left hi] at h1
      rw [List.getElem?_append_left (by rw [h.lenB]; exact hi)] at h2
      obtain ⟨e1, e2⟩ := h.datB i x z h1 h2
      exact ⟨e1, by simpa [Dk.write] using hdat _ _ e2⟩
    · rw [List.getElem?_append_right (by omega)] at h1
      rw [List.getElem?_append_right (by rw [h.lenB]; omega), h.lenB] at h2
      have hz : i - D.loose.length = 0 := by
        have := (List.getElem?_eq_some_iff.1 h1).1
        simp at this; omega
      rw [hz] at h1 h2
      simp at h1 h2
      subst h1 h2
      exact ⟨rfl, by simpa [Dk.write] using hnew⟩
  · exact x3.mono (fun x hx hT => by exact hT.elim (fun hT => hBS x hT) (fun hT => hT ▸ h.own))

set_option maxRecDepth 100000 in
set_option maxHeartbeats 800000 in
theorem dwrite_ok (c : Nat) (vb : Value) (b : List UInt8) (F S : Foot) (p : Nat) (D : Dk) (w : World) (hS : Young S w) (h : DiskAt w S p D) (hb : BytesAt w F vb b) (hc : c < D.cells.length) (hl : b.length ≤ D.size) (hmany : D.loose.length ≤ 1000000) :
    Calls Try.prog 59 #[.pointer (some ⟨p, 0, none⟩), .int .i64 c, vb] w fun e w' => e = .returned (.int .i64 0) ∧ DiskAt w' S p (D.write c b) ∧ Ext S w w' := by
  obtain ⟨hok, A, B, ca, cb, y, vs, lv, h⟩ := h
  have hsz := hok.1
  have hbw : BytesAt w.drew F vb b := hb
  have hcl := clone_calls vb b F (fun x => S x ∧ w.heap.size ≤ x) w.drew (fun x hx => ⟨hS x hx, hx⟩) hbw (by omega)
  obtain ⟨Ab, nb, rfl, _⟩ := hb.open
  have c0 := cells_of h.blk 0
  have c1 := cells_of h.blk 1
  have c2 := cells_of h.blk 2
  have f2 := free_of h.blk 2
  have hpl := lt_of h.blk
  have HC := Lib.hid hcl
  clear hcl
  go_enter Try.func59, Try.ntmps59
  go_wp2_with fail
  go_region_law
    (first
     | (refine step_app E131 rfl _ _ (by rfl) (by rfl) (⟨((h.rowB.ext hx0 (fun _ _ h => h)).alloc _).1, fun g hg => .inl hg⟩ : OwnAt (w1.alloc (.cells #[.int .i64 c, .slice A1 b.length c1'] 170)) (fun x => (Value.slice B D.loose.length cb).ownBlock = some x ∨ w1.heap.size + 1 ≤ x) _ _ _ _ _) (by rfl) (SlAt.lit w1 S #[.int .i64 c, .slice A1 b.length c1'] 170 1 2 rfl (by unfold maxLen; omega) (hS _ hx0.size)) (fun x hx => .inr (by simpa using hx)) (AppSide.w hmany) ?_; intro A2 c2 w2 ho2 hg2; have hp2 := grown_block hg2 hp1' (((h.rowB.ext hx0 (fun _ _ h => h)).alloc _).ne hp1' rfl); have fz2 := free_of hp2 2; have cz2 := cells_of hp2 2)
     | (go_simp; go_at_call 94; refine HC.out.mono ?_; rintro e w1 ⟨A1, c1', rfl, ho1, hx1⟩; have hx0 : Ext noFoot w w1 := Ext.trans (b := w.drew) ((Ext.refl noFoot w).drew) hx1 (fun _ _ h => h); have hp1 := hx1.block (a := w.drew) h.blk (fun h => h); have cz1 := cells_of hp1 2; have hp1' := alloc_block (.cells #[.int .i64 c, .slice A1 b.length c1'] 170) hp1; have cz1' := cells_of hp1' 2))
  all_goals
    have hend := dwrite_end hS hok h hc hl hx0 ho1 hg2 ho2
    go_wp2
    go_ret
    exact ⟨rfl, hend⟩
end Go.Proofs.Ytmicclopokpgoaa
