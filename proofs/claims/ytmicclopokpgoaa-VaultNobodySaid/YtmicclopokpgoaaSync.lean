/- Package platter: what makes writes safe. -/
import Derived.Test.YtmicclopokpgoaaPlatw
import Derived.RegionTactic
import Derived.ChangeAlike
namespace Go.Proofs.Ytmicclopokpgoaa
open Go.RowKit
set_option linter.unusedVariables false
set_option linter.unusedSimpArgs false

/-- Cells behind writes, one behind the other. -/
def doneC (cs : List (List UInt8)) (l : List (Nat × List UInt8)) : List (List UInt8) := l.foldl (fun cs x => cs.set x.1 x.2) cs
def doneV (vs : List Value) (l : List (Nat × Value)) : List Value := l.foldl (fun vs x => vs.set x.1 x.2) vs
theorem doneC_length (cs : List (List UInt8)) (l : List (Nat × List UInt8)) : (doneC cs l).length = cs.length := by
  induction l generalizing cs with
  | nil => rfl
  | cons x l ih => simp only [doneC, List.foldl_cons] at ih ⊢; rw [ih]; simp
theorem doneV_length (vs : List Value) (l : List (Nat × Value)) : (doneV vs l).length = vs.length := by
  induction l generalizing vs with
  | nil => rfl
  | cons x l ih => simp only [doneV, List.foldl_cons] at ih ⊢; rw [ih]; simp
theorem doneV_snoc (vs : List Value) (l : List (Nat × Value)) (x : Nat × Value) : doneV vs (l ++ [x]) = (doneV vs l).set x.1 x.2 := by simp [doneV]
/-- What holds of each cell and of each write holds of each cell behind them. -/
theorem done_rel (R : List UInt8 → Value → Prop) (l : List (Nat × List UInt8)) : ∀ (cs : List (List UInt8)) (vs : List Value) (lv : List (Nat × Value)), vs.length = cs.length → lv.length = l.length →
    (∀ (i : Nat) (b : List UInt8) (v : Value), cs[i]? = some b → vs[i]? = some v → R b v) → (∀ (i : Nat) (x : Nat × List UInt8) (y : Nat × Value), l[i]? = some x → lv[i]? = some y → y.1 = x.1 ∧ R x.2 y.2) →
    ∀ (i : Nat) (b : List UInt8) (v : Value), (doneC cs l)[i]? = some b → (doneV vs lv)[i]? = some v → R b v := by
  induction l with
  | nil =>
    intro cs vs lv h1 h2 h3 h4
    obtain rfl : lv = [] := List.eq_nil_of_length_eq_zero h2
    exact h3
  | cons x l ih =>
    intro cs vs lv h1 h2 h3 h4
    match lv, h2 with
    | y :: lv, h2 =>
      have e0 := h4 0 x y rfl rfl
      simp only [doneC, doneV, List.foldl_cons]
      refine ih (cs.set x.1 x.2) (vs.set y.1 y.2) lv (by simpa using h1) (by simpa using h2) ?_ (fun i a b ha hb => h4 (i + 1) a b ha hb)
      intro i b v hb hv
      rw [List.getElem?_set] at hb hv
      rw [e0.1] at hv
      by_cases hi : x.1 = i
      · rw [if_pos hi] at hb hv
        split at hb <;> split at hv
        · cases hb; cases hv; exact e0.2
        all_goals simp_all
      · rw [if_neg hi] at hb hv
        exact h3 i b v hb hv

theorem doneC_all (P : List UInt8 → Prop) (l : List (Nat × List UInt8)) : ∀ cs : List (List UInt8), (∀ b ∈ cs, P b) → (∀ x ∈ l, P x.2) → ∀ b ∈ doneC cs l, P b := by
  induction l with
  | nil => exact fun cs h _ => h
  | cons x l ih =>
    intro cs h1 h2
    refine ih (cs.set x.1 x.2) (fun b hb => ?_) (fun y hy => h2 y (List.mem_cons_of_mem _ hy))
    rcases List.mem_or_eq_of_mem_set hb with hb | hb
    · exact h1 b hb
    · rw [hb]; exact h2 x (List.mem_cons_self ..)

/-- All writes made safe. -/
def Dk.sync (D : Dk) : Dk := { D with cells := doneC D.cells D.loose, loose := [] }

set_option maxRecDepth 100000 in
set_option maxHeartbeats 800000 in
theorem dsync_calls (S : Foot) (p : Nat) (D : Dk) (w : World) (hS : Young S w) (h : DiskAt w S p D) :
    Calls Try.prog 60 #[.pointer (some ⟨p, 0, none⟩)] w fun e w' => e = .returned (.int .i64 0) ∧ DiskAt w' S p D.sync ∧ Ext S w w' := by
  obtain ⟨hok, A, B, ca, cb, y, vs, lv, h⟩ := h
  have c2 := cells_of h.blk 2
  have hLm := h.rowB.len_le
  have HOK := Lib.hid hok
  have HH := Lib.hid h
  clear hok h
  generalize hL : D.loose.length = n at *
  have HLN := Lib.hid hL
  clear hL
  go_enter Try.func60, Try.ntmps60
  go_wp2_with fail
  clear c2
  go_loopw [4, 12] (fun t i wr => ∃ j : Nat, j ≤ n ∧ i = .int .i64 j ∧ OwnAt wr S 30 1 (.slice A D.cells.length ca) D.cells.length (doneV vs (lv.take j)) ∧ Ext (fun x => (Value.slice A D.cells.length ca).ownBlock = some x) w wr) (fun _ i _ => n - (intOf i).toNat)
  case atStart => exact ⟨0, Nat.zero_le _, rfl, HH.out.rowA, Ext.refl _ _⟩
  case round =>
    obtain ⟨j, hj, rfl, hA, hx⟩ := hrel
    have h := HH.out
    have hblk := hx.block h.blk (fun e => h.rowA.ne h.blk rfl e.symm)
    have c1 := cells_of hblk 1
    by_cases hlt : j < n
    · have hB := h.rowB.ext hx (fun g hg hT => h.rowA.apart h.rowB rfl g hT hg)
      have hjl : j < lv.length := by rw [h.lenB, HLN.out]; exact hlt
      obtain ⟨gB, hgB, _, hgBl, hcl, _⟩ := hB.cell (j := j * 2) (by rw [looseV_length]; omega)
      have q0 := hcl (j * 2) (by rw [looseV_length]; omega)
      have q1 := hcl (j * 2 + 1) (by rw [looseV_length]; omega)
      rw [(looseV_get lv j hjl).1] at q0
      rw [(looseV_get lv j hjl).2] at q1
      have hjL : j < D.loose.length := by rw [HLN.out]; exact hlt
      have hd := (h.datB j _ _ (List.getElem?_eq_getElem hjL) (List.getElem?_eq_getElem hjl))
      have hcn : lv[j].1 < D.cells.length := by rw [hd.1]; exact (HOK.out.2.2.2 _ (List.getElem_mem hjL)).1
      have hlA := doneV_length vs (lv.take j)
      rw [h.lenA] at hlA
      obtain ⟨gA, hgA, _, hgAl, hclA, hfrA⟩ := hA.cell (j := lv[j].1) (by rw [hlA]; exact hcn)
      have qA := hclA lv[j].1 (by rw [hlA]; exact hcn)
      have fA := hfrA lv[j].1
      have hsn : doneV vs (lv.take (j + 1)) = (doneV vs (lv.take j)).set lv[j].1 lv[j].2 := by rw [List.take_succ_eq_append_getElem hjl, doneV_snoc]
      subst hgA hgB
      have qA' : ∃ vA, wr.cell? ⟨gA, lv[j].1, none⟩ = some vA := ⟨_, qA.trans (List.getElem?_eq_getElem (by rw [hlA]; exact hcn))⟩
      obtain ⟨vA, qA'⟩ := qA'
      obtain ⟨Av, cv, hvf, _⟩ := hd.2.open
      generalize (D.loose[j]).2.length = nv at *
      have hst := hA.store lv[j].1 lv[j].2 (by rw [hlA]; exact hcn)
      generalize lv[j] = x at *
      obtain ⟨xc, xv⟩ := x
      have HSN := Lib.hid hsn
      clear hcl hclA hfrA hsn qA hd hlA
      dsimp only at hvf
      subst hvf
      have hpl := lt_of hblk
      go_wp2_with fail
      go_region
      go_wp2_with fail
      refine ⟨⟨j + 1, by omega, by go_num, ?_, ?_⟩, by simp [intOf]; omega⟩
      · rw [HSN.out]; exact hst.alloc _
      · exact ((hx.setCell ⟨gA, xc, none⟩ (.slice Av nv cv) (fun _ => rfl)).alloc _).drew
    · have cc := cells_of hblk
      have ff := free_of hblk
      obtain rfl : j = n := by omega
      go_wp2_with fail
      go_ret
      have hok := HOK.out
      have hb2 := set_of (set_of hblk 2 (.slice none 0 0)) 3 (.int .i64 (wrap64 (y + 1)))
      have x2 : Ext (fun x => (Value.slice A D.cells.length ca).ownBlock = some x ∨ x = p) w ((wr.setCell ⟨p, 2, none⟩ (.slice none 0 0)).setCell ⟨p, 3, none⟩ (.int .i64 (wrap64 (y + 1)))) :=
        ((hx.mono (fun _ _ h => .inl h)).setCell _ _ (fun _ => .inr rfl)).setCell _ _ (fun _ => .inr rfl)
      have hlj : lv.take j = lv := by rw [List.take_of_length_le (by rw [h.lenB, HLN.out]; exact Nat.le_refl _)]
      rw [hlj] at hA
      have hlC := doneC_length D.cells D.loose
      have hA2 := (hA.setCell ⟨p, 2, none⟩ (.slice none 0 0) (hA.ne hblk rfl)).setCell ⟨p, 3, none⟩ (.int .i64 (wrap64 (y + 1))) (hA.ne hblk rfl)
      generalize (wr.setCell ⟨p, 2, none⟩ (.slice none 0 0)).setCell ⟨p, 3, none⟩ (.int .i64 (wrap64 (y + 1))) = W at *
      refine ⟨rfl, ⟨⟨hok.1, by simp only [Dk.sync, hlC]; exact hok.2.1, doneC_all (fun b => b.length ≤ 4096) D.loose D.cells hok.2.2.1 (fun x hx => (hok.2.2.2 x hx).2), by simp [Dk.sync]⟩,
        A, none, ca, 0, wrap64 (y + 1), doneV vs lv, [], ⟨h.own, ?_, ?_, OwnAt.nil _ _ _ _, ?_, rfl, ?_, ?_⟩⟩, ?_⟩
      · rw [hb2]; simp [Dk.sync, hlC]
      · simp only [Dk.sync, hlC]; exact hA2
      · simp only [Dk.sync, hlC, doneV_length]; exact h.lenA
      · simp only [Dk.sync, hlC]
        refine done_rel _ _ _ _ _ h.lenA h.lenB (fun i b v h1 h2 => ?_) (fun i x z h1 h2 => ⟨(h.datB i x z h1 h2).1, ?_⟩)
        · exact (h.datA i b v h1 h2).keep x2 (fun x hx hF hT => hT.elim (fun hT => hF.2.2.1 hT) (fun hT => hF.2.1 hT)) (fun x hx hF => ⟨hF.1, hF.2.1, hF.2.2.1, by simp [Value.ownBlock]⟩)
        · exact (h.datB i x z h1 h2).2.keep x2 (fun x hx hF hT => hT.elim (fun hT => hF.2.2.1 hT) (fun hT => hF.2.1 hT)) (fun x hx hF => ⟨hF.1, hF.2.1, hF.2.2.1, by simp [Value.ownBlock]⟩)
      · intro i x z h1; simp [Dk.sync] at h1
      · exact x2.mono (fun x hx hT => hT.elim (fun hT => h.rowA.2 x hT) (fun hT => hT ▸ h.own))
end Go.Proofs.Ytmicclopokpgoaa
