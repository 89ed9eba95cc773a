/- Layer 12's law: the chapter's example. -/
import Derived.Test.YtmicclopokpgoaaCmp
import Derived.Lib.SlBytesConst
namespace Go.Proofs.Ytmicclopokpgoaa
open Go.RowKit
set_option linter.unusedVariables false
set_option linter.unusedSimpArgs false

def lessS (x y : Sh) : Bool :=
  if x.ob.toNat ≠ y.ob.toNat then decide (x.ob.toNat < y.ob.toNat)
  else if x.st.toNat ≠ y.st.toNat then decide (x.st.toNat < y.st.toNat)
  else if x.sl.toNat ≠ y.sl.toNat then decide (x.sl.toNat < y.sl.toNat)
  else decide (x.gn.toNat < y.gn.toNat)
set_option maxRecDepth 100000 in
theorem less_calls (x y : Sh) (w : World) : Calls Try.prog 10 #[x.v, y.v] w fun e w' => e = .returned (.bool (lessS x y)) ∧ Ext noFoot w w' := by
  unfold Sh.v Sh.cells lessS
  generalize x.ob.toNat = a
  generalize x.st.toNat = b
  generalize x.sl.toNat = c
  generalize x.gn.toNat = d
  generalize y.ob.toNat = a'
  generalize y.st.toNat = b'
  generalize y.sl.toNat = c'
  generalize y.gn.toNat = d'
  by_cases h1 : a = a'
  · subst h1
    rw [if_neg (fun h => h rfl)]
    by_cases h2 : b = b'
    · subst h2
      rw [if_neg (fun h => h rfl)]
      by_cases h3 : c = c'
      · subst h3
        rw [if_neg (fun h => h rfl)]
        go_enter Try.func10, Try.ntmps10
        go_wp2_with fail
        go_ret
        exact ⟨by simp, ((Ext.refl _ _).alloc _).alloc _⟩
      · rw [if_pos h3]
        have z1 : ((c : Int) == (c' : Int)) = false := by simp; omega
        have z2 : ((c : Int) != (c' : Int)) = true := by simp; omega
        go_enter Try.func10, Try.ntmps10
        go_wp2_with fail
        go_ret
        exact ⟨by simp, ((Ext.refl _ _).alloc _).alloc _⟩
    · rw [if_pos h2]
      have z1 : ((b : Int) == (b' : Int)) = false := by simp; omega
      have z2 : ((b : Int) != (b' : Int)) = true := by simp; omega
      go_enter Try.func10, Try.ntmps10
      go_wp2_with fail
      go_ret
      exact ⟨by simp, ((Ext.refl _ _).alloc _).alloc _⟩
  · rw [if_pos h1]
    have z1 : ((a : Int) == (a' : Int)) = false := by simp; omega
    have z2 : ((a : Int) != (a' : Int)) = true := by simp; omega
    go_enter Try.func10, Try.ntmps10
    go_wp2_with fail
    go_ret
    exact ⟨by simp, ((Ext.refl _ _).alloc _).alloc _⟩

/-! ### The example -/
def exS : Sh := ⟨1, 0, 0, 0⟩
def exD0 : Dk := Dk.new 3 99
def exD1 : Dk := (putOf exD0 [] exS [97, 98, 99]).1
def exL : List (Sh × Nat) := [(exS, 0)]
def exD2 : Dk := exD1.spoil 0 25 1
theorem ex_open0 : openL exD0 = [] := by decide +kernel
theorem ex_put1 : (putOf exD0 [] exS [97, 98, 99]).2.1 = exL := by decide +kernel
theorem ex_put2 : (putOf exD0 [] exS [97, 98, 99]).2.2 = 0 := by decide +kernel
theorem ex_cells1 : 0 < exD1.cells.length := by decide +kernel
theorem ex_cells2 : 25 < (exD1.cells.getD 0 []).length := by decide +kernel
theorem ex_get : (getOf exD2 exL exS).2 = 22 := by decide +kernel
theorem ex_open2 : openL exD2 = [] := by decide +kernel

set_option maxRecDepth 100000 in
set_option maxHeartbeats 1600000 in
theorem awake12_calls (w : World) : Calls Try.prog 18 #[] w fun e w' => e = .returned (.bool true) ∧ Ext noFoot w w' := by
  have hnew := dnew_calls 3 99 (young w) w (fun _ h => h) (by decide) (by decide) (by decide) (by decide)
  have HN := Lib.hid hnew
  clear hnew
  go_enter Try.func18, Try.ntmps18
  go_wp2_with fail
  refine HN.out.mono ?_
  rintro e w1 ⟨p, rfl, hp, hD1, hx1⟩
  have hD1' : DiskAt w1 (young w) p exD0 := hD1
  go_wp2_with fail
  refine (vopen_calls _ p exD0 w1 hD1').mono ?_
  rintro e w2 ⟨q, m, rfl, hv2, hq, hm, hx2⟩
  rw [ex_open0] at hv2
  have hpl := hD1'.lt
  -- the disk's blocks from here on: those of the call, but for the vault's own
  have hD2 : DiskAt w2 (fun b => w.heap.size ≤ b ∧ b ≠ q ∧ b ≠ m) p exD0 := (hD1'.mono (fun b hb h => ⟨h, by omega, by omega⟩)).ext hx2 (fun _ _ _ h => h)
  have hql := lt_of hv2.blk
  have hml := hv2.map.lt
  have x02 := hx1.then hx2
  have s02 := x02.size
  obtain ⟨W, hW⟩ : ∃ W, W = (w2.alloc (.cells #[.int .u32 1, .int .u16 0, .int .u16 0, .int .u32 0] 25)).alloc (.cells #[.int .u8 97, .int .u8 98, .int .u8 99] 5 (3, 4)) := ⟨_, rfl⟩
  have kc : (convert 30 30 (.slice (some ⟨w2.heap.size + 1, 0, none⟩) 3 3)).run Try.prog ((w2.alloc (.cells #[.int .u32 1, .int .u16 0, .int .u16 0, .int .u32 0] 25)).alloc (.cells #[.int .u8 97, .int .u8 98, .int .u8 99] 5)) = .ok (.slice (some ⟨w2.heap.size + 1, 0, none⟩) 3 3) W := by
    have := Lib.run_convert_bytes_const (P := Try.prog) (w2.alloc (.cells #[.int .u32 1, .int .u16 0, .int .u16 0, .int .u32 0] 25)) 30 5 #[.int .u8 97, .int .u8 98, .int .u8 99] 3 3 Try.underlying30 Try.underlying5
    rw [show (w2.alloc (.cells #[.int .u32 1, .int .u16 0, .int .u16 0, .int .u32 0] 25)).heap.size = w2.heap.size + 1 by simp] at this
    rw [hW]; exact this
  have xW : Ext noFoot w2 W := by rw [hW]; exact ((Ext.refl _ _).alloc _).alloc _
  have hbx : W.heap[w2.heap.size]? = some (.cells #[.int .u32 1, .int .u16 0, .int .u16 0, .int .u32 0] 25 (0, 0)) := by rw [hW]; exact alloc_block _ (alloc_at _ _)
  have hby : W.heap[w2.heap.size + 1]? = some (.cells #[.int .u8 97, .int .u8 98, .int .u8 99] 5 (3, 4)) := by
    have := alloc_at (w2.alloc (.cells #[.int .u32 1, .int .u16 0, .int .u16 0, .int .u32 0] 25)) (.cells #[.int .u8 97, .int .u8 98, .int .u8 99] 5 (3, 4))
    rw [show (w2.alloc (.cells #[.int .u32 1, .int .u16 0, .int .u16 0, .int .u32 0] 25)).heap.size = w2.heap.size + 1 by simp] at this
    rw [hW]; exact this
  have hbb : BytesAt W (fun _ => True) (.slice (some ⟨w2.heap.size + 1, 0, none⟩) 3 3) [97, 98, 99] :=
    BytesAt.mk 3 rfl (Nat.le_refl _) (by unfold maxLen; omega) (fun h => by simp at h) (.inr ⟨w2.heap.size + 1, 0, rfl, trivial, lt_of hby, fun j hj => by rw [Nat.zero_add, cells_of hby]; simp [bytesV, byteV]⟩)
  have hSW : Young (fun b => w.heap.size ≤ b ∧ b ≠ q ∧ b ≠ m ∧ b ≠ w2.heap.size ∧ b ≠ w2.heap.size + 1) W := fun b hb => by
    have := lt_of hby
    exact ⟨by omega, by omega, by omega, by omega, by omega⟩
  have hDW : DiskAt W (fun b => w.heap.size ≤ b ∧ b ≠ q ∧ b ≠ m ∧ b ≠ w2.heap.size ∧ b ≠ w2.heap.size + 1) p exD0 := (hD2.mono (fun b hb h => ⟨h.1, h.2.1, h.2.2, by omega, by omega⟩)).ext xW (fun _ _ _ h => h)
  have hput := vput_calls exS _ [97, 98, 99] _ _ q m p [] exD0 W hSW hDW (hv2.later xW) hbb (by simp) (fun h => h.2.1 rfl) (fun h => h.2.2.1 rfl) (by simp) (by decide +kernel)
  rw [ex_put1, ex_put2] at hput
  have hx1' : (putOf exD0 [] exS [97, 98, 99]).1 = exD1 := rfl
  rw [hx1'] at hput
  have hsv : exS.v = .agg #[.int .u32 1, .int .u16 0, .int .u16 0, .int .u32 0] := rfl
  rw [hsv] at hput
  have HP := Lib.hid hput
  clear hput hx1' hbb hby
  go_wp2_with fail
  clear kc
  rw [← hW]
  clear hW
  refine HP.out.mono ?_
  rintro e w3 ⟨rfl, hD3, hv3, hx3⟩
  have hx3' : Ext (fun b => w.heap.size ≤ b) W w3 := hx3.mono (fun b _ h => h.elim (fun h => h.1) (fun h => by omega))
  have hb3 := hx3.block hbx (fun h => h.elim (fun h => h.2.2.2.1 rfl) (fun h => by omega))
  have hS3 := hSW.later hx3
  have hsp := dspoil_ok 0 25 1 _ p exD1 w3 hS3 hD3 ex_cells1 ex_cells2
  have HSP := Lib.hid hsp
  clear hsp
  go_wp2_with fail
  refine HSP.out.mono ?_
  rintro e w4 ⟨rfl, hD4, hx4⟩
  have hv4 := hv3.ext hx4 (fun h => h.2.1 rfl) (fun h => h.2.2.1 rfl)
  have hb4 := hx4.block hb3 (fun h => h.2.2.2.1 rfl)
  have k4 := cells_of hb4
  have hD4' : DiskAt w4 (fun b => w.heap.size ≤ b ∧ b ≠ q ∧ b ≠ m ∧ b ≠ w2.heap.size ∧ b ≠ w2.heap.size + 1) p exD2 := hD4
  have hgt := vget_calls exS _ (young w4) q m p exL exD2 w4 (fun _ h => h) hD4' hv4
  rw [hsv, ex_get] at hgt
  have HG := Lib.hid hgt
  clear hgt
  go_wp2_with fail
  refine HG.out.mono ?_
  rintro e w5 ⟨A5, n5, rfl, ho5, hx5⟩
  have hop := vopen_calls _ p exD2 w5 (hD4'.ext hx5 (fun _ _ _ h => h))
  rw [ex_open2] at hop
  have HO := Lib.hid hop
  clear hop
  go_wp2_with fail
  refine HO.out.mono ?_
  rintro e w6 ⟨q6, m6, rfl, hv6, _, _, hx6⟩
  have hln := vlen_calls q6 m6 p [] w6 hv6
  have HL := Lib.hid hln
  clear hln
  go_wp2_with fail
  refine HL.out.mono ?_
  rintro e w7 ⟨rfl, rfl⟩
  have xF : Ext noFoot w w6 := ((((x02.then xW).trans (S := noFoot) hx3' (fun b hb h => by omega)).trans (S := noFoot) hx4 (fun b hb h => by have := h.1; omega)).then hx5).then hx6
  go_wp2_with fail
  go_ret
  exact ⟨rfl, xF⟩
end Go.Proofs.Ytmicclopokpgoaa
