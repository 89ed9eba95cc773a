/- Package vault: the first cell in which no shard is. -/
import Derived.Test.YtmicclopokpgoaaVget
import Derived.Deep.LoopGhost
namespace Go.Proofs.Ytmicclopokpgoaa
open Go.RowKit
set_option linter.unusedVariables false
set_option linter.unusedSimpArgs false

/-- The first place from i on at which a bool stands. -/
def boolAt (b : Bool) : List Bool → Nat → Option Nat
  | [], _ => none
  | x :: l, i => if x = b then some i else boolAt b l (i + 1)
theorem boolAt_skip (b : Bool) (l : List Bool) (j : Nat) (h : ∀ i, i < j → l[i]? = some (!b)) (hj : j ≤ l.length) : boolAt b l 0 = boolAt b (l.drop j) j := by
  induction j with
  | zero => rfl
  | succ j ih =>
    rw [ih (fun i hi => h i (by omega)) (by omega)]
    have hjl : j < l.length := by omega
    rw [List.drop_eq_getElem_cons hjl]
    have := h j (by omega)
    rw [List.getElem?_eq_getElem hjl] at this
    injection this with this
    rw [this, boolAt, if_neg (by cases b <;> simp)]
def optV (o : Option Nat) : Value := .int .i64 (match o with | some c => (c : Int) | none => -1)

set_option maxRecDepth 100000 in
theorem index_calls (b : Bool) (l : List Bool) (A : Option Addr) (c : Nat) (F : Foot) (w : World) (hs : SegAt w F A (l.map Value.bool)) (hl : l.length ≤ 1073741824) :
    Calls Try.prog 103 #[.slice A l.length c, .bool b] w fun e w' => e = .returned (optV (boolAt b l 0)) ∧ w = w' := by
  go_enter Try.func103, Try.ntmps103
  go_wp2_with fail
  go_loop [5, 8] (fun _ i => ∃ j : Nat, j ≤ l.length ∧ i = .int .i64 j ∧ ∀ i, i < j → l[i]? = some (!b)) (fun _ i => l.length - (intOf i).toNat)
  case atStart => exact ⟨0, Nat.zero_le _, rfl, fun i hi => by omega⟩
  case round =>
    obtain ⟨j, hj, rfl, hbef⟩ := hrel
    have HB := Lib.hid hbef
    clear hbef
    by_cases hlt : j < l.length
    · obtain ⟨g, o, rfl, _, _, hcl⟩ := hs.form (j := j) (by simpa using hlt)
      have hcell := hcl j (by simpa using hlt)
      rw [List.getElem?_map, List.getElem?_eq_getElem hlt, Option.map_some] at hcell
      clear hcl
      cases hx : l[j] with
      | false =>
        rw [hx] at hcell
        have HX := Lib.hid hx
        clear hx
        cases b with
        | false =>
          go_wp2_with fail
          go_ret
          have he : boolAt false l 0 = some j := by
            rw [boolAt_skip false l j HB.out (by omega), List.drop_eq_getElem_cons hlt, HX.out]; rfl
          rw [he]
          exact ⟨rfl, rfl⟩
        | true =>
          go_wp2_with fail
          refine ⟨⟨j + 1, by omega, by go_num, fun i hi => ?_⟩, by simp [intOf]; omega⟩
          by_cases hij : i < j
          · exact HB.out i hij
          · obtain rfl : i = j := by omega
            rw [List.getElem?_eq_getElem hlt, HX.out]; rfl
      | true =>
        rw [hx] at hcell
        have HX := Lib.hid hx
        clear hx
        cases b with
        | true =>
          go_wp2_with fail
          go_ret
          have he : boolAt true l 0 = some j := by
            rw [boolAt_skip true l j HB.out (by omega), List.drop_eq_getElem_cons hlt, HX.out]; rfl
          rw [he]
          exact ⟨rfl, rfl⟩
        | false =>
          go_wp2_with fail
          refine ⟨⟨j + 1, by omega, by go_num, fun i hi => ?_⟩, by simp [intOf]; omega⟩
          by_cases hij : i < j
          · exact HB.out i hij
          · obtain rfl : i = j := by omega
            rw [List.getElem?_eq_getElem hlt, HX.out]; rfl
    · obtain rfl : j = l.length := by omega
      go_wp2_with fail
      go_ret
      have he : boolAt b l 0 = none := by
        rw [boolAt_skip b l l.length HB.out (by omega), List.drop_length]; rfl
      rw [he]
      exact ⟨rfl, rfl⟩

theorem perm_eraseIdx {α : Type} : ∀ (l : List α) (i : Nat) (y : α), l[i]? = some y → (y :: l.eraseIdx i).Perm l
  | [], _, _, h => by simp at h
  | x :: l, 0, y, h => by simp at h; subst h; simp
  | x :: l, i + 1, y, h => by
    simp only [List.getElem?_cons_succ] at h
    rw [List.eraseIdx_cons_succ]
    exact (List.Perm.swap x y _).trans ((perm_eraseIdx l i y h).cons x)

/-- Which cells are in use. -/
def usedOf (n : Nat) (l : List (Sh × Nat)) : List Bool := (List.range n).map fun c => l.any fun x => x.2 == c
theorem usedOf_length (n : Nat) (l : List (Sh × Nat)) : (usedOf n l).length = n := by simp [usedOf]
theorem usedOf_set (n : Nat) (l : List (Sh × Nat)) (y : Sh × Nat) (hy : y.2 < n) : (usedOf n l).set y.2 true = usedOf n (y :: l) := by
  apply List.ext_getElem?
  intro i
  simp only [usedOf, List.getElem?_set, List.getElem?_map, List.length_map, List.length_range]
  by_cases hi : i < n
  · by_cases hyi : y.2 = i
    · subst hyi; simp [hi]
    · simp [hi, hyi]
  · by_cases hyi : y.2 = i
    · omega
    · simp [hyi, List.getElem?_range, hi]
theorem usedOf_perm (n : Nat) {l k : List (Sh × Nat)} (h : l.Perm k) : usedOf n l = usedOf n k := by
  unfold usedOf
  congr 1
  funext c
  rw [Bool.eq_iff_iff]
  simp only [List.any_eq_true]
  exact ⟨fun ⟨x, hx, e⟩ => ⟨x, h.mem_iff.1 hx, e⟩, fun ⟨x, hx, e⟩ => ⟨x, h.mem_iff.2 hx, e⟩⟩
/-- The first cell in which no shard is. -/
def freeOf (n : Nat) (l : List (Sh × Nat)) : Option Nat := boolAt false (usedOf n l) 0

set_option maxRecDepth 100000 in
set_option maxHeartbeats 800000 in
theorem vfree_calls (S : Foot) (q m p : Nat) (L : List (Sh × Nat)) (D : Dk) (w : World) (hD : DiskAt w S p D) (h : VaultAt w q m p L) (hL : ∀ x ∈ L, x.2 < D.cells.length) :
    Calls Try.prog 58 #[.pointer (some ⟨q, 0, none⟩)] w fun e w' => e = .returned (optV (freeOf D.cells.length L)) ∧ Ext noFoot w w' := by
  have c0 := cells_of h.blk
  have hn : D.cells.length ≤ 1024 := hD.1.2.1
  have hdl := dlen_calls S p D w hD
  generalize D.cells.length = n at *
  have HDL := Lib.hid hdl
  have HL := Lib.hid hL
  clear hdl hL
  go_enter Try.func58, Try.ntmps58
  go_wp2_with fail
  refine HDL.out.mono ?_
  rintro e w1 ⟨rfl, hx1⟩
  have h1 := h.later hx1
  have c1 := cells_of h1.blk
  go_wp2_with (at_make; refine wpList_mk (z := .bool false) (bytes := 1) (S := young w) Try.underlying183 (by kernel_rfl) rfl rfl _ _ rfl n rfl rfl (fun b hb => Nat.le_trans hx1.size hb) (by omega) (by unfold maxLen; omega) ?_; intro w2 ho2 hg2; have x12 : Ext noFoot w1 w2 := (Ext.refl _ _).grown hg2 (by simp); have c2 := cells_of (h1.later x12).blk; have hrg := run_range MShard w2 (h1.later x12).map; obtain ⟨w3, hrun, hit, hx3⟩ := hrg)
  have x02 : Ext noFoot w w2 := hx1.then x12
  have x03 : Ext noFoot w w3 := x02.then hx3
  have hg0 : w1.heap.size < w2.heap.size := own_lt ho2.1 _ rfl
  have hfo : freeOf n L = boolAt false (usedOf n L) 0 := rfl
  have HFO := Lib.hid hfo
  clear hfo c0 c1 c2 hrun
  go_loopg [7] L.length (fun g s7 wr => ∃ vis left, g = left.length ∧ (vis ++ left).Perm L ∧ IterAt wr Sh.v natV w2.heap.size m L left ∧ OwnAt wr (young w) 4 1 (.slice (some ⟨w1.heap.size, 0, none⟩) n n) n ((usedOf n vis).map Value.bool) ∧ Ext noFoot w wr)
  case atStart =>
    refine ⟨[], L, rfl, by simp, hit, ?_, x03⟩
    have : (usedOf n []).map Value.bool = List.replicate n (.bool false) := by
      apply List.ext_getElem?
      intro i
      by_cases hi : i < n <;> simp [usedOf, List.getElem?_range, hi]
    rw [this]
    exact ho2.ext hx3 (fun _ _ h => h)
  case round =>
    obtain ⟨vis, left, rfl, hperm, hit, ho, hx⟩ := hrel
    by_cases hle : left = []
    · subst hle
      obtain ⟨w4, hrn, hx4, hh4⟩ := run_next_end (P := Try.prog) wr 0 hit
      rw [List.append_nil] at hperm
      have ho4 := ho.ext hx4 (fun _ _ h => h)
      have hsl := ho4.slAt
      obtain ⟨A', c', he, _, _, _, _, hseg⟩ := hsl
      injection he with e1 e2 e3
      subst e1 e3
      have hul := usedOf_length n vis
      rw [usedOf_perm n hperm] at hseg
      have hic := index_calls false (usedOf n L) _ n (young w) w4 hseg (by rw [usedOf_length]; omega)
      rw [usedOf_length, ← HFO.out] at hic
      have HIC := Lib.hid hic
      have HUL := Lib.hid hul
      clear hic hul hh4
      go_wp2_with fail
      refine HIC.out.mono ?_
      rintro e w5 ⟨rfl, rfl⟩
      go_wp2_with fail
      go_ret
      exact ⟨rfl, hx.then hx4⟩
    · obtain ⟨i, y, w4, hy, hrn, hit4, hx4, hen⟩ := run_next (P := Try.prog) wr 0 hit hle
      have hyL : y ∈ L := hperm.mem_iff.1 (List.mem_append_right _ (List.mem_of_getElem? hy))
      have hyn := HL.out y hyL
      have hil := (List.getElem?_eq_some_iff.1 hy).1
      have hml : m < w.heap.size := h.map.lt
      have hs1 := hx1.size
      have ho4 := ho.ext hx4 (fun g hg (e : g = w2.heap.size) => by
        have : w1.heap.size = g := by simpa [Value.ownBlock] using hg
        omega)
      have hul := usedOf_length n vis
      obtain ⟨g', hg', _, _, hcl, hfr⟩ := ho4.cell (j := y.2) (by rw [List.length_map, hul]; exact hyn)
      have e1 : w1.heap.size = g' := by simpa using hg'
      subst e1
      have k1 := hcl y.2 (by rw [List.length_map, hul]; exact hyn)
      rw [List.getElem?_map, List.getElem?_eq_getElem (by rw [hul]; exact hyn), Option.map_some] at k1
      have k2 := hfr y.2
      have hst := ho4.store y.2 (.bool true) (by rw [List.length_map, hul]; exact hyn)
      have hst2 : OwnAt (w4.setCell ⟨w1.heap.size, y.2, none⟩ (.bool true)) (young w) 4 1 (.slice (some ⟨w1.heap.size, 0, none⟩) n n) n ((usedOf n (y :: vis)).map Value.bool) := by
        rw [← usedOf_set n vis y hyn, List.map_set]; exact hst
      have xs : Ext (one w1.heap.size) w4 (w4.setCell ⟨w1.heap.size, y.2, none⟩ (.bool true)) := (Ext.refl _ _).setCell _ _ (fun _ => rfl)
      have hit5 := hit4.ext xs (fun (e : m = w1.heap.size) => by omega) (fun (e : w2.heap.size = w1.heap.size) => by omega)
      have hx5 : Ext noFoot w (w4.setCell ⟨w1.heap.size, y.2, none⟩ (.bool true)) := (hx.trans (S := noFoot) (hx4.mono (T := fun b => w.heap.size ≤ b) (fun b hb (e : b = w2.heap.size) => by have := x02.size; omega)) (fun b hb (e : w.heap.size ≤ b) => by omega)).setCell _ _ (fun h => by simp at h; omega)
      have hpm : ((y :: vis) ++ left.eraseIdx i).Perm L := by
        refine List.Perm.trans ?_ hperm
        have h1 : (y :: left.eraseIdx i).Perm left := perm_eraseIdx left i y hy
        exact (List.perm_middle.symm).trans (h1.append_left vis)
      have hln : (left.eraseIdx i).length < left.length := by rw [List.length_eraseIdx, if_pos hil]; omega
      generalize (usedOf n vis)[y.2]'(by rw [hul]; exact hyn) = bb at k1
      unfold natV at hrn hen
      generalize y.1.v = yv at *
      have HST := Lib.hid hst2
      have HIT := Lib.hid hit5
      have HX5 := Lib.hid hx5
      have HPM := Lib.hid hpm
      clear hst hst2 hit5 hx5 hpm hit hit4 ho ho4 hul hperm hcl hfr hy
      go_wp2_with fail
      go_roundg (left.eraseIdx i).length
      case measure => exact hln
      case rel => exact ⟨y :: vis, left.eraseIdx i, rfl, HPM.out, HIT.out, HST.out, HX5.out⟩
end Go.Proofs.Ytmicclopokpgoaa
