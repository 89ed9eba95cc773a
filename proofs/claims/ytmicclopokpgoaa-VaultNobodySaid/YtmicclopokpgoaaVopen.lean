/- Package vault: a disk's vault. -/
import Derived.Test.YtmicclopokpgoaaVbegin
namespace Go.Proofs.Ytmicclopokpgoaa
open Go.RowKit
set_option linter.unusedVariables false
set_option linter.unusedSimpArgs false

/-- One cell more, looked at. -/
def openStep (D : Dk) (L : List (Sh × Nat)) (c : Nat) : List (Sh × Nat) :=
  if (readOf (D.read c)).2.2 ≠ 0 then L
  else if (lookL (readOf (D.read c)).1 L).isSome then L
  else L ++ [((readOf (D.read c)).1, c)]
def openTo (D : Dk) (n : Nat) : List (Sh × Nat) := (List.range n).foldl (openStep D) []
theorem openTo_succ (D : Dk) (n : Nat) : openTo D (n + 1) = openStep D (openTo D n) n := by simp [openTo, List.range_succ]
/-- What an opened vault knows. -/
def openL (D : Dk) : List (Sh × Nat) := openTo D D.cells.length

set_option maxRecDepth 100000 in
set_option maxHeartbeats 1600000 in
theorem vopen_calls (S : Foot) (p : Nat) (D : Dk) (w : World) (hD : DiskAt w S p D) :
    Calls Try.prog 7 #[.pointer (some ⟨p, 0, none⟩)] w fun e w' => ∃ q m, e = .returned (.tuple #[.pointer (some ⟨q, 0, none⟩), .int .i64 0]) ∧ VaultAt w' q m p (openL D) ∧ w.heap.size ≤ q ∧ w.heap.size ≤ m ∧ Ext noFoot w w' := by
  have hmm := @run_makeMap Try.prog
  have hn : D.cells.length ≤ 1024 := hD.1.2.1
  obtain ⟨W, hW⟩ : ∃ W, W = (w.alloc (.map #[] 0)).alloc (.cells #[.pointer (some ⟨p, 0, none⟩), .map (some w.heap.size)] 36) := ⟨_, rfl⟩
  have xW : Ext noFoot w W := by rw [hW]; exact ((Ext.refl _ _).alloc _).alloc _
  have hvW : VaultAt W (w.heap.size + 1) w.heap.size p [] := by
    rw [hW]
    refine ⟨?_, (MapAt.made w).ext (S := noFoot) ((Ext.refl _ _).alloc _) (fun h => h)⟩
    have := alloc_at (w.alloc (.map #[] 0)) (.cells #[.pointer (some ⟨p, 0, none⟩), .map (some w.heap.size)] 36)
    rw [show (w.alloc (.map #[] 0)).heap.size = w.heap.size + 1 by simp] at this
    exact this
  have hdl := dlen_calls S p D W (hD.ext xW (fun _ _ _ h => h))
  have hol : openL D = openTo D D.cells.length := rfl
  rw [hol]
  have hrl := fun c => D.read_len hD.1 c
  have hrd := fun (c : Nat) wx (x : Ext noFoot w wx) => dread_calls c S (young wx) p D wx (fun b hb => hb) (hD.ext x (fun _ _ _ h => h))
  have hos := openTo_succ D
  have ho0 : openTo D 0 = [] := rfl
  generalize D.cells.length = n at *
  have HDL := Lib.hid hdl
  have HRL := Lib.hid hrl
  have HRD := Lib.hid hrd
  have HOS := Lib.hid hos
  clear hdl hol hrl hrd hos
  go_enter Try.func7, Try.ntmps7
  go_wp2_with fail
  rw [← hW]
  clear hW hmm
  refine HDL.out.mono ?_
  rintro e w1 ⟨rfl, hx1⟩
  have x1 := xW.then hx1
  have hv1 := hvW.later hx1
  have hsz := x1.size
  have HO0 := Lib.hid ho0
  clear ho0
  go_wp2_with fail
  go_loopw [7, 25] (fun _ i wr => ∃ j : Nat, j ≤ n ∧ i = .int .i64 j ∧ VaultAt wr (w.heap.size + 1) w.heap.size p (openTo D j) ∧ Ext noFoot w wr) (fun _ i _ => n - (intOf i).toNat)
  case atStart => exact ⟨0, Nat.zero_le _, rfl, by rw [HO0.out]; exact hv1, x1⟩
  case round =>
    obtain ⟨j, hj, rfl, hv, hx⟩ := hrel
    by_cases hlt : j < n
    · have hrdj := HRD.out j wr hx
      have hrlj := HRL.out j
      have hosj := HOS.out j
      unfold openStep at hosj
      generalize D.read (j : Int) = bs at *
      have hvr := fun A k wx (ho : OwnAt wx (young wr) 5 1 (.slice A bs.length k) bs.length (bytesV bs)) => vread_calls _ bs _ (young wx) wx (fun _ h => h) (BytesAt.ofOwnAt ho) (by omega)
      unfold Reads at hvr
      have hrc := readOf_small bs
      generalize readOf bs = r at *
      obtain ⟨t, data, er⟩ := r
      obtain ⟨a, b, c, d, htv, htc⟩ := t.form
      simp only [htv] at hvr
      simp only at hosj hrc
      have HRJ := Lib.hid hrdj
      have HVR := Lib.hid hvr
      have HOJ := Lib.hid hosj
      have HTV := Lib.hid htv
      clear hrdj hvr hosj htv
      go_wp2_with fail
      refine HRJ.out.mono ?_
      rintro e w2 ⟨A2, n2, rfl, ho2, hx2⟩
      go_wp2_with fail
      refine (HVR.out A2 n2 w2 ho2).mono ?_
      rintro e w3 ⟨A3, n3, rfl, ho3, hx3⟩
      have x23 := hx2.then hx3
      have hv3 := hv.later x23
      have x3 := hx.then x23
      have hm3 := hv3.map.lt
      have hq3 := lt_of hv3.blk
      have c3 := cells_of hv3.blk
      by_cases q1 : er = 0
      · subst q1
        have hoj := HOJ.out
        rw [if_neg (fun h => h rfl)] at hoj
        have hlk := fun k => run_lookup_ok MShard t ((w3.alloc (.cells #[.int .u32 a, .int .u16 b, .int .u16 c, .int .u32 d] 25)).drewN k) (hv3.map.ext (S := noFoot) (((Ext.refl _ _).alloc _).drewN k) (fun h => h))
        have hlk0 := run_lookup_ok MShard t (w3.alloc (.cells #[.int .u32 a, .int .u16 b, .int .u16 c, .int .u32 d] 25)) (hv3.map.ext (S := noFoot) ((Ext.refl _ _).alloc _) (fun h => h))
        rw [HTV.out] at hlk hlk0
        unfold natV at hlk hlk0
        cases hls : (lookL t (openTo D j)).isSome with
        | true =>
          rw [if_pos hls] at hoj
          rw [hls] at hlk hlk0
          have HOJ2 := Lib.hid hoj
          clear hls hoj
          go_wp2_with fail
          go_quiet (fail)
          go_wp2_with fail
          go_roundw
          case rel => exact ⟨j + 1, by omega, by go_num, by rw [HOJ2.out]; exact hv3.later (((Ext.refl _ _).alloc _).drewN _), (x3.alloc _).drewN _⟩
          case measure => simp [intOf]; omega
        | false =>
          rw [if_neg (by rw [hls]; simp)] at hoj
          rw [hls] at hlk hlk0
          have HOJ2 := Lib.hid hoj
          have HLS := Lib.hid hls
          clear hls hoj
          go_wp2_with fail
          go_quiet (fail)
          have hfa : ∀ k, ∃ w4, (w3.alloc (.cells #[.int .u32 a, .int .u16 b, .int .u16 c, .int .u32 d] 25)).drewN k = w4 ∧ Ext noFoot w3 w4 ∧ w4.heap[w3.heap.size]? = some (.cells #[.int .u32 a, .int .u16 b, .int .u16 c, .int .u32 d] 25) := fun k => ⟨_, rfl, ((Ext.refl _ _).alloc _).drewN _, alloc_at w3 _⟩
          obtain ⟨w4, hw4, x34, hb4⟩ := hfa _
          rw [hw4]
          clear hw4 hlk hlk0 c3
          have hv4 := hv3.later x34
          have c4 := cells_of hv4.blk
          have k4 := cells_of hb4
          have hm4 := hv4.map.lt
          have hq4 := lt_of hv4.blk
          obtain ⟨w5, hmu, hmap5, hx5⟩ := run_mapUpdate MShard t j w4.drew (hv4.map.ext (S := noFoot) (Ext.refl _ w4).drew (fun h => h))
          have hv5 : VaultAt w5 (w.heap.size + 1) w.heap.size p (openTo D j ++ [(t, j)]) := ⟨hx5.block (a := w4.drew) hv4.blk (fun (e : w.heap.size + 1 = w.heap.size) => by omega), by rw [← putL_new HLS.out]; exact hmap5⟩
          have x5 : Ext noFoot w w5 := ((x3.then x34).trans (S := noFoot) (T := fun b => w.heap.size ≤ b) (Ext.trans (b := w4.drew) (Ext.refl _ w4).drew hx5 (fun b hb (e : b = w.heap.size) => by show w.heap.size ≤ b; omega)) (fun b hb (e : w.heap.size ≤ b) => by omega))
          rw [HTV.out] at hmu
          unfold natV at hmu
          go_wp2_with fail
          go_region
          all_goals
            go_wp2_with fail
            go_roundw
            case rel => exact ⟨j + 1, by omega, by go_num, by rw [HOJ2.out]; exact hv5, x5⟩
            case measure => simp [intOf]; omega
      · have hoj := HOJ.out
        rw [if_pos q1] at hoj
        have HOJ2 := Lib.hid hoj
        clear hoj
        have z1 : ((er : Int) == 0) = false := by simp; omega
        have z2 : ((er : Int) != 0) = true := by simp; omega
        go_wp2_with fail
        go_roundw
        case rel => exact ⟨j + 1, by omega, by go_num, by rw [HOJ2.out]; exact hv3.later ((Ext.refl _ _).alloc _), x3.alloc _⟩
        case measure => simp [intOf]; omega
    · obtain rfl : j = n := by omega
      go_wp2_with fail
      go_ret2
      exact ⟨w.heap.size + 1, w.heap.size, rfl, hv, by omega, by omega, hx⟩
end Go.Proofs.Ytmicclopokpgoaa
