/- Package vault: which of two names is first. -/
import Derived.Test.YtmicclopokpgoaaVnil
namespace Go.Proofs.Ytmicclopokpgoaa
open Go.RowKit
set_option linter.unusedVariables false
set_option linter.unusedSimpArgs false

def cmpI (a b : Int) : Int := if a < b then -1 else if b < a then 1 else 0
set_option maxRecDepth 100000 in
theorem cmp32_any (a b : Int) (w : World) : Calls Try.prog 54 #[.int .u32 a, .int .u32 b] w fun e w' => e = .returned (.int .i64 (cmpI a b)) ∧ w = w' := by
  unfold cmpI
  by_cases h1 : a < b
  · rw [if_pos h1]
    go_enter Try.func54, Try.ntmps54
    go_wp2
    go_ret
    exact ⟨rfl, rfl⟩
  · rw [if_neg h1]
    by_cases h2 : b < a
    · rw [if_pos h2]
      go_enter Try.func54, Try.ntmps54
      go_wp2
      go_ret
      exact ⟨rfl, rfl⟩
    · rw [if_neg h2]
      go_enter Try.func54, Try.ntmps54
      go_wp2
      go_ret
      exact ⟨rfl, rfl⟩
set_option maxRecDepth 100000 in
theorem cmp16_any (a b : Int) (w : World) : Calls Try.prog 55 #[.int .u16 a, .int .u16 b] w fun e w' => e = .returned (.int .i64 (cmpI a b)) ∧ w = w' := by
  unfold cmpI
  by_cases h1 : a < b
  · rw [if_pos h1]
    go_enter Try.func55, Try.ntmps55
    go_wp2
    go_ret
    exact ⟨rfl, rfl⟩
  · rw [if_neg h1]
    by_cases h2 : b < a
    · rw [if_pos h2]
      go_enter Try.func55, Try.ntmps55
      go_wp2
      go_ret
      exact ⟨rfl, rfl⟩
    · rw [if_neg h2]
      go_enter Try.func55, Try.ntmps55
      go_wp2
      go_ret
      exact ⟨rfl, rfl⟩
/-- The first number that isn't 0. -/
def orL : List Int → Int
  | [] => 0
  | x :: l => if x = 0 then orL l else x
theorem orL_skip (l : List Int) (j : Nat) (h : ∀ i, i < j → l[i]? = some 0) (hj : j ≤ l.length) : orL l = orL (l.drop j) := by
  induction j with
  | zero => rfl
  | succ j ih =>
    rw [ih (fun i hi => h i (by omega)) (by omega), List.drop_eq_getElem_cons (by omega)]
    have := h j (by omega)
    rw [List.getElem?_eq_getElem (by omega)] at this
    injection this with this
    rw [this, orL, if_pos rfl]
set_option maxRecDepth 100000 in
theorem or_calls (l : List Int) (A : Option Addr) (c : Nat) (F : Foot) (w : World) (hs : SegAt w F A (l.map (Value.int .i64))) (hl : l.length ≤ 1073741824) :
    Calls Try.prog 53 #[.slice A l.length c] w fun e w' => e = .returned (.int .i64 (orL l)) ∧ w = w' := by
  go_enter Try.func53, Try.ntmps53
  go_wp2_with fail
  go_loop [5, 8] (fun _ i => ∃ j : Nat, j ≤ l.length ∧ i = .int .i64 j ∧ ∀ i, i < j → l[i]? = some 0) (fun _ i => l.length - (intOf i).toNat)
  case atStart => exact ⟨0, Nat.zero_le _, rfl, fun i hi => by omega⟩
  case round =>
    obtain ⟨j, hj, rfl, hbef⟩ := hrel
    have HB := Lib.hid hbef
    clear hbef
    by_cases hlt : j < l.length
    · obtain ⟨g, o, rfl, _, _, hcl⟩ := hs.form (j := j) (by simpa using hlt)
      have hcell := hcl j (by simpa using hlt)
      rw [List.getElem?_map, List.getElem?_eq_getElem hlt, Option.map_some] at hcell
      clear hcl
      have hdr := List.drop_eq_getElem_cons hlt
      have hge : l[j]? = some l[j] := List.getElem?_eq_getElem hlt
      generalize l[j] = x at *
      have HD := Lib.hid hdr
      have HG := Lib.hid hge
      clear hdr hge
      by_cases hx : x = 0
      · subst hx
        go_wp2_with fail
        refine ⟨⟨j + 1, by omega, by go_num, fun i hi => ?_⟩, by simp [intOf]; omega⟩
        by_cases hij : i < j
        · exact HB.out i hij
        · obtain rfl : i = j := by omega
          exact HG.out
      · have z1 : (x == 0) = false := by simp [hx]
        have z2 : (x != 0) = true := by simp [hx]
        have he : orL l = x := by rw [orL_skip l j HB.out (by omega), HD.out, orL, if_neg hx]
        have HE := Lib.hid he
        clear he
        go_wp2_with fail
        go_ret
        rw [HE.out]
        exact ⟨rfl, rfl⟩
    · obtain rfl : j = l.length := by omega
      go_wp2_with fail
      go_ret
      have he : orL l = 0 := by rw [orL_skip l l.length HB.out (by omega), List.drop_length]; rfl
      rw [he]
      exact ⟨rfl, rfl⟩

/-- Which of two names is first. -/
def cmpS (x y : Sh) : Int := orL [cmpI x.ob.toNat y.ob.toNat, cmpI x.st.toNat y.st.toNat, cmpI x.sl.toNat y.sl.toNat, cmpI x.gn.toNat y.gn.toNat]

theorem box_cells {w : World} {h : Nat} {a b c d : Int} (hb : w.heap[h]? = some (.cells #[.int .u32 a, .int .u16 b, .int .u16 c, .int .u32 d] 25 (0, 0))) :
    w.cell? ⟨h, 0, none⟩ = some (.int .u32 a) ∧ w.cell? ⟨h, 1, none⟩ = some (.int .u16 b) ∧ w.cell? ⟨h, 2, none⟩ = some (.int .u16 c) ∧ w.cell? ⟨h, 3, none⟩ = some (.int .u32 d) :=
  ⟨cells_of hb 0, cells_of hb 1, cells_of hb 2, cells_of hb 3⟩

set_option maxRecDepth 100000 in
set_option maxHeartbeats 1600000 in
theorem compare_calls (x y : Sh) (w : World) : Calls Try.prog 9 #[x.v, y.v] w fun e w' => e = .returned (.int .i64 (cmpS x y)) ∧ Ext noFoot w w' := by
  have hcs : cmpS x y = orL [cmpI x.ob.toNat y.ob.toNat, cmpI x.st.toNat y.st.toNat, cmpI x.sl.toNat y.sl.toNat, cmpI x.gn.toNat y.gn.toNat] := rfl
  rw [hcs]
  clear hcs
  unfold Sh.v Sh.cells
  generalize (x.ob.toNat : Int) = a
  generalize (x.st.toNat : Int) = b
  generalize (x.sl.toNat : Int) = c
  generalize (x.gn.toNat : Int) = d
  generalize (y.ob.toNat : Int) = a'
  generalize (y.st.toNat : Int) = b'
  generalize (y.sl.toNat : Int) = c'
  generalize (y.gn.toNat : Int) = d'
  obtain ⟨W, hW⟩ : ∃ W, W = (w.alloc (.cells #[.int .u32 a, .int .u16 b, .int .u16 c, .int .u32 d] 25)).alloc (.cells #[.int .u32 a', .int .u16 b', .int .u16 c', .int .u32 d'] 25) := ⟨_, rfl⟩
  have xW : Ext noFoot w W := by rw [hW]; exact ((Ext.refl _ _).alloc _).alloc _
  have hb1 : W.heap[w.heap.size]? = some (.cells #[.int .u32 a, .int .u16 b, .int .u16 c, .int .u32 d] 25 (0, 0)) := by rw [hW]; exact alloc_block _ (alloc_at _ _)
  have hb2 : W.heap[w.heap.size + 1]? = some (.cells #[.int .u32 a', .int .u16 b', .int .u16 c', .int .u32 d'] 25 (0, 0)) := by
    rw [hW]
    have := alloc_at (w.alloc (.cells #[.int .u32 a, .int .u16 b, .int .u16 c, .int .u32 d] 25)) (.cells #[.int .u32 a', .int .u16 b', .int .u16 c', .int .u32 d'] 25)
    rw [show (w.alloc (.cells #[.int .u32 a, .int .u16 b, .int .u16 c, .int .u32 d] 25)).heap.size = w.heap.size + 1 by simp] at this
    exact this
  have k1 := cells_of hb1
  have k2 := cells_of hb2
  have hseg : SegAt (W.alloc (.cells #[.int .i64 (cmpI a a'), .int .i64 (cmpI b b'), .int .i64 (cmpI c c'), .int .i64 (cmpI d d')] 3)).drew (fun _ => True) (some ⟨W.heap.size, 0, none⟩) ([cmpI a a', cmpI b b', cmpI c c', cmpI d d'].map (Value.int .i64)) :=
    .inr ⟨W.heap.size, 0, rfl, trivial, lt_of (alloc_at W (.cells #[.int .i64 (cmpI a a'), .int .i64 (cmpI b b'), .int .i64 (cmpI c c'), .int .i64 (cmpI d d')] 3)), fun j hj => by rw [Nat.zero_add]; exact (cells_of (w := (W.alloc (.cells #[.int .i64 (cmpI a a'), .int .i64 (cmpI b b'), .int .i64 (cmpI c c'), .int .i64 (cmpI d d')] 3)).drew) (alloc_at W (.cells #[.int .i64 (cmpI a a'), .int .i64 (cmpI b b'), .int .i64 (cmpI c c'), .int .i64 (cmpI d d')] 3)) j).trans (by simp)⟩
  have hl4 : [cmpI a a', cmpI b b', cmpI c c', cmpI d d'].length ≤ 1073741824 := by simp
  have HSEG := Lib.hid hseg
  clear hseg
  go_enter Try.func9, Try.ntmps9
  go_wp2_with fail
  rw [← hW]
  clear hW
  go_region_held3 (fun w' => w'.cell? ⟨w.heap.size, 0, none⟩ = some (.int .u32 a) ∧ w'.cell? ⟨w.heap.size, 1, none⟩ = some (.int .u16 b) ∧ w'.cell? ⟨w.heap.size, 2, none⟩ = some (.int .u16 c) ∧ w'.cell? ⟨w.heap.size, 3, none⟩ = some (.int .u32 d) ∧ w'.cell? ⟨w.heap.size + 1, 0, none⟩ = some (.int .u32 a') ∧ w'.cell? ⟨w.heap.size + 1, 1, none⟩ = some (.int .u16 b') ∧ w'.cell? ⟨w.heap.size + 1, 2, none⟩ = some (.int .u16 c') ∧ w'.cell? ⟨w.heap.size + 1, 3, none⟩ = some (.int .u32 d'))
    (first | go_keep)
    (first
      | (go_at_call 54; refine (cmp32_any _ _ _).mono ?_; rintro e w' ⟨rfl, rfl⟩)
      | (go_at_call 55; refine (cmp16_any _ _ _).mono ?_; rintro e w' ⟨rfl, rfl⟩)
      | (go_at_call 53; refine (or_calls [cmpI a a', cmpI b b', cmpI c c', cmpI d d'] _ _ _ _ HSEG.out hl4).mono ?_; rintro e w' ⟨rfl, rfl⟩))
  all_goals
    go_wp2_with fail
    go_ret
    exact ⟨rfl, (xW.alloc _).drew⟩
end Go.Proofs.Ytmicclopokpgoaa
