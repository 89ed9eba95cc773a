/- Package vault: a cell's shard, written and read. -/
import Derived.Test.YtmicclopokpgoaaSpoil
namespace Go.Proofs.Ytmicclopokpgoaa
open Go.RowKit
set_option linter.unusedVariables false
set_option linter.unusedSimpArgs false

/-- A shard, written. -/
def frameV (s : Sh) (data : List UInt8) : List UInt8 := frameOf 1 (s.bytes ++ data)
theorem frameV_length (s : Sh) (data : List UInt8) : (frameV s data).length = 24 + data.length := by
  rw [frameV, frameOf_length, List.length_append, Sh.bytes_length]; omega

set_option maxRecDepth 100000 in
set_option maxHeartbeats 800000 in
theorem vframe_calls (s : Sh) (vb : Value) (data : List UInt8) (F T : Foot) (w : World) (hT : Young T w) (hb : BytesAt w F vb data) (hlen : data.length ≤ 65524) :
    Calls Try.prog 57 #[s.v, vb] w fun e w' => ∃ A c, e = .returned (.slice A (24 + data.length) c) ∧ OwnAt w' T 5 1 (.slice A (24 + data.length) c) (24 + data.length) (bytesV (frameV s data)) ∧ Ext noFoot w w' := by
  have hb1 := hb.under
  have hbl := s.bytes_length
  obtain ⟨A, c, rfl, _⟩ := hb.open
  have hsv : s.v = .agg #[.int .u32 s.ob.toNat, .int .u16 s.st.toNat, .int .u16 s.sl.toNat, .int .u32 s.gn.toNat] := rfl
  obtain ⟨W, hW⟩ : ∃ W, W = (w.alloc (.cells s.cells 25)).alloc (.cells #[.slice none 0 0] 179) := ⟨_, rfl⟩
  have x0 : Ext noFoot w W := by rw [hW]; exact ((Ext.refl _ _).alloc _).alloc _
  have hwW : WriterAt W (young w) (w.heap.size + 1) [] := by
    rw [hW]
    have := alloc_at (w.alloc (.cells s.cells 25)) (.cells #[.slice none 0 0] 179)
    rw [show (w.alloc (.cells s.cells 25)).heap.size = w.heap.size + 1 by simp] at this
    exact ⟨by unfold young; omega, _, this, OwnAt.nil _ _ _ _⟩
  have hz : ∀ wx, Ext (young w) w wx → BytesAt wx (under w.heap.size) (.slice A data.length c) data := fun wx x =>
    hb1.keep x (fun b _ hu hy => absurd hu (by unfold young at hy; unfold under; omega)) (fun _ _ h => h)
  have xW : Ext (young w) w W := x0.mono (fun _ _ h => h.elim)
  have hyW : Young (young w) W := fun b hb => Nat.le_trans x0.size hb
  have hfl := frameV_length s data
  have hfd : frameV s data = frameOf 1 (s.bytes ++ data) := rfl
  rw [hsv]
  unfold Sh.cells at hW
  have HF := Lib.hid hfl
  have HFD := Lib.hid hfd
  have HBL := Lib.hid hbl
  clear hfl hbl hfd
  go_enter Try.func57, Try.ntmps57
  go_wp2_with fail
  rw [← hW]
  clear hW
  refine (wshard_calls s _ _ [] W hyW hwW (by simp)).mono ?_
  rintro e w1 ⟨rfl, hw1, hx1⟩
  have x1 := xW.trans hx1 (fun _ _ h => h)
  rw [List.nil_append] at hw1
  go_wp2_with fail
  refine (wraw_calls _ data _ _ _ _ _ (hz _ x1) (hyW.later hx1) hw1 (by rw [HBL.out]; omega) (by omega)).mono ?_
  rintro e w2 ⟨rfl, hw2, hx2⟩
  have x2 := x1.trans hx2 (fun _ _ h => h)
  go_wp2_with fail
  refine (wbytes_calls _ (young w2) _ _ _ (fun _ h => h) hw2 (by rw [List.length_append, HBL.out]; omega)).mono ?_
  rintro e w3 ⟨A3, c3, rfl, ho3, hx3⟩
  have x3 := x2.then hx3
  have hb3 := BytesAt.ofOwnAt ho3
  go_wp2_with fail
  refine (frame_calls 1 _ (s.bytes ++ data) _ T _ (hT.later x3) (by decide) (by simpa using hb3) (by rw [List.length_append, HBL.out]; omega)).mono ?_
  rintro e w4 ⟨A4, c4, rfl, ho4, hx4⟩
  have hl : 12 + (s.bytes ++ data).length = 24 + data.length := by rw [List.length_append, HBL.out]; omega
  rw [hl] at ho4
  go_wp2
  go_ret
  exact ⟨A4, c4, by simp [HBL.out]; omega, by rw [HFD.out]; exact ho4, (x3.then hx4).mono (fun b hb hy => absurd hy (by unfold young; omega))⟩

def Sh.zero : Sh := ⟨0, 0, 0, 0⟩
/-- What a cell's bytes hold: a shard's name, its bytes, and an error's number. -/
def readOf (b : List UInt8) : Sh × List UInt8 × Nat :=
  if (openOf b).2.2.2 ≠ 0 then (Sh.zero, [], (openOf b).2.2.2)
  else if (openOf b).1 ≠ 1 ∨ (openOf b).2.1.length < 12 ∨ (openOf b).2.2.1 ≠ b.length then (Sh.zero, [], 21)
  else (shOf (openOf b).2.1, (openOf b).2.1.drop 12, 0)

theorem openOf_size (b : List UInt8) : (openOf b).2.1.length ≤ b.length ∧ (openOf b).2.2.1 ≤ 65548 ∧ (openOf b).2.2.2 ≤ 22 ∧ (openOf b).1 < 65536 := by
  unfold openOf
  have := rdv_lt 2 (b.drop 2)
  split
  · simp
  · split
    · simp
    · refine ⟨?_, by simp; omega, by simp, by simpa using this⟩
      simp; omega

/-- What read answers. -/
def Reads (w : World) (T : Foot) (r : Sh × List UInt8 × Nat) (e : Ending) (w' : World) : Prop :=
  ∃ A c, e = .returned (.tuple #[r.1.v, .slice A r.2.1.length c, .int .i64 r.2.2]) ∧ OwnAt w' T 5 1 (.slice A r.2.1.length c) r.2.1.length (bytesV r.2.1) ∧ Ext noFoot w w'

/-- Four cells, stored one behind the other. -/
def set4 (w : World) (b : Nat) (a0 a1 a2 a3 : Value) : World := (((w.setCell ⟨b, 0, none⟩ a0).setCell ⟨b, 1, none⟩ a1).setCell ⟨b, 2, none⟩ a2).setCell ⟨b, 3, none⟩ a3
theorem set4_heap {w : World} {b : Nat} {x0 x1 x2 x3 : Value} {t : TypeId} (h : w.heap[b]? = some (.cells #[x0, x1, x2, x3] t (0, 0))) (a0 a1 a2 a3 : Value) : (set4 w b a0 a1 a2 a3).heap[b]? = some (.cells #[a0, a1, a2, a3] t (0, 0)) :=
  set_of (set_of (set_of (set_of h 0 a0) 1 a1) 2 a2) 3 a3
theorem set4_ext {S : Foot} {a w : World} {b : Nat} (h : Ext S a w) (hb : b < a.heap.size → S b) (a0 a1 a2 a3 : Value) : Ext S a (set4 w b a0 a1 a2 a3) :=
  (((h.setCell ⟨b, 0, none⟩ a0 hb).setCell ⟨b, 1, none⟩ a1 hb).setCell ⟨b, 2, none⟩ a2 hb).setCell ⟨b, 3, none⟩ a3 hb
theorem set4_own {w : World} {S : Foot} {e size n b : Nat} {v : Value} {xs : List Value} (h : OwnAt w S e size v n xs) (hb : some b ≠ v.ownBlock) (a0 a1 a2 a3 : Value) : OwnAt (set4 w b a0 a1 a2 a3) S e size v n xs :=
  (((h.setCell ⟨b, 0, none⟩ a0 hb).setCell ⟨b, 1, none⟩ a1 hb).setCell ⟨b, 2, none⟩ a2 hb).setCell ⟨b, 3, none⟩ a3 hb

/-- The end of read: the name stands in a block of the call's own. -/
theorem read_end {W : World} {hs : Nat} {s : Sh} {u v : Value} {R : Ending → World → Prop} {a : Act} (hb : W.heap[hs]? = some (.cells s.cells 25 (0, 0)))
    (h2 : a.tmps.getD 2 undef = .pointer (some ⟨hs, 0, none⟩)) (h3 : a.tmps.getD 3 undef = u) (h4 : a.tmps.getD 4 undef = v) (hd : a.defers = []) (hR : R (.returned (.tuple #[s.v, u, v])) W) :
    bodyPost Try.prog Try.f51 R Exit.ret a W := by
  have c := cells_of hb
  unfold Sh.cells at c
  rw [Array.getD_eq_getD_getElem?] at h2 h3 h4
  exact bodyPost_ret (v := .tuple #[s.v, u, v]) (by simp [results, Try.results51, go_sem, c, h2, h3, h4, Sh.v, Sh.cells]) hd hR

set_option maxRecDepth 100000 in
set_option maxHeartbeats 1600000 in
theorem vread_calls (vb : Value) (b : List UInt8) (F T : Foot) (w : World) (hT : Young T w) (hb : BytesAt w F vb b) (hlen : b.length ≤ 1073741824) :
    Calls Try.prog 51 #[vb] w (Reads w T (readOf b)) := by
  have hsz := openOf_size b
  have hro : readOf b = if (openOf b).2.2.2 ≠ 0 then (Sh.zero, [], (openOf b).2.2.2)
    else if (openOf b).1 ≠ 1 ∨ (openOf b).2.1.length < 12 ∨ (openOf b).2.2.1 ≠ b.length then (Sh.zero, [], 21)
    else (shOf (openOf b).2.1, (openOf b).2.1.drop 12, 0) := rfl
  obtain ⟨W, hW⟩ : ∃ W, W = w.alloc (.cells Sh.zero.cells 25) := ⟨_, rfl⟩
  have xW : Ext noFoot w W := by rw [hW]; exact (Ext.refl _ _).alloc _
  have hbW := hb.later xW
  have hbx : W.heap[w.heap.size]? = some (.cells Sh.zero.cells 25 (0, 0)) := by rw [hW]; exact alloc_at _ _
  have hop := open_calls vb b F (young W) W (fun _ h => h) hbW hlen
  have hWs : w.heap.size < W.heap.size := lt_of hbx
  obtain ⟨A, c, rfl, _⟩ := hb.open
  have hzc : Sh.zero.cells = #[.int .u32 0, .int .u16 0, .int .u16 0, .int .u32 0] := rfl
  rw [hzc] at hW
  generalize openOf b = r at *
  generalize readOf b = res at *
  obtain ⟨k, load, size, er⟩ := r
  simp only at hro hsz
  have HRO := Lib.hid hro
  have HOP := Lib.hid hop
  clear hro hop hzc
  go_enter Try.func51, Try.ntmps51
  go_wp2_with fail
  rw [← hW]
  clear hW
  refine HOP.out.mono ?_
  rintro e w1 ⟨A1, c1, rfl, ho1, hx1⟩
  have hb1 := hx1.block hbx (fun h => h)
  have x1 := xW.then hx1
  have cz := cells_of hb1
  have fz := free_of hb1
  unfold Sh.cells Sh.zero at cz
  have hT1 : Young T w1 := hT.later x1
  dsimp only at ho1
  have hz4 := set4_heap (show w1.heap[w.heap.size]? = some (.cells #[.int .u32 0, .int .u16 0, .int .u16 0, .int .u32 0] 25 (0, 0)) from hb1) (.int .u32 0) (.int .u16 0) (.int .u16 0) (.int .u32 0)
  have xz4 := set4_ext x1 (b := w.heap.size) (fun h => absurd h (by omega)) (.int .u32 0) (.int .u16 0) (.int .u16 0) (.int .u32 0)
  by_cases q1 : er = 0
  · subst q1
    by_cases q2 : k = 1 ∧ 12 ≤ load.length ∧ size = b.length
    · obtain ⟨rfl, q3, hq⟩ := q2
      have HR := HRO.out
      rw [if_neg (fun h => h rfl), if_neg (by omega)] at HR
      subst HR
      have z1 : ((size : Int) == (b.length : Int)) = true := by simp; omega
      have z2 : ((size : Int) != (b.length : Int)) = false := by simp; omega
      have hlb := BytesAt.ofOwnAt ho1
      have hll : load.length ≤ 1073741824 := by omega
      clear hz4 xz4
      have HQ := Lib.hid hq
      clear hq
      have hsv : ∃ a b c d : Int, (shOf load).v = .agg #[.int .u32 a, .int .u16 b, .int .u16 c, .int .u32 d] ∧ (shOf load).cells = #[.int .u32 a, .int .u16 b, .int .u16 c, .int .u32 d] := ⟨_, _, _, _, rfl, rfl⟩
      obtain ⟨n0, n1, n2, n3, hsv, hsc⟩ := hsv
      have HSV := Lib.hid hsv
      clear hsv
      go_wp2_with fail
      refine (read_calls _ load _ w1 hlb).mono ?_
      rintro e w2 ⟨rfl, hr2, hx2⟩
      go_wp2_with fail
      refine (rshard_calls _ _ load _ w2 hr2 hll).mono ?_
      rintro e w3 ⟨rfl, hr3, hx3⟩
      have x12 : Ext noFoot w1 w3 := (Ext.after hx2 hx3).mono (fun x hx (e : x = w1.heap.size) => by omega)
      have x13 : Ext noFoot w w3 := x1.then x12
      rw [HSV.out]
      go_wp2_with fail
      refine (rest_calls (fun x => T x ∧ w3.heap.size ≤ x) _ _ _ _ w3 (fun x hx => ⟨hT.later x13 x hx, hx⟩) hr3 (by rw [List.length_drop]; omega)).mono ?_
      rintro e w4 ⟨A4, c4, rfl, ho4, hr4, hx4⟩
      have x4 : Ext noFoot w w4 := (x13.mono (fun _ _ h => h.elim)).trans (S := noFoot) (hx4.mono (T := fun x => w1.heap.size ≤ x) (fun x hx (e : x = w1.heap.size) => by omega)) (fun x hx h => by have := x1.size; omega)
      have hb3 := x12.block hb1 (fun h => h)
      have hb4 := hx4.block hb3 (fun (e : w.heap.size = w1.heap.size) => by have := lt_of hb1; omega)
      have cz4 := cells_of hb4
      have fz4 := free_of hb4
      unfold Sh.cells Sh.zero at cz4
      have hz4 := set4_heap (show w4.heap[w.heap.size]? = some (.cells #[.int .u32 0, .int .u16 0, .int .u16 0, .int .u32 0] 25 (0, 0)) from hb4) (.int .u32 n0) (.int .u16 n1) (.int .u16 n2) (.int .u32 n3)
      have xz4 := set4_ext x4 (b := w.heap.size) (fun h => absurd h (by omega)) (.int .u32 n0) (.int .u16 n1) (.int .u16 n2) (.int .u32 n3)
      have oz4 := set4_own (ho4.mono (T := T) (fun _ _ h => h.1)) (b := w.heap.size) (fun e => by have := (ho4.2 _ e.symm).2; have := lt_of hb3; omega) (.int .u32 n0) (.int .u16 n1) (.int .u16 n2) (.int .u32 n3)
      go_wp2_with fail
      refine read_end (s := shOf load) (by rw [hsc]; exact hz4) rfl rfl rfl rfl ⟨A4, c4, by simp, oz4, xz4⟩
    · have HR := HRO.out
      rw [if_neg (fun h => h rfl), if_pos (by omega)] at HR
      subst HR
      have hsz2 := hsz.2.1
      by_cases q3 : k = 1
      · subst q3
        by_cases q4 : load.length < 12
        · go_wp2_with fail
          exact read_end hz4 rfl rfl rfl rfl ⟨none, 0, rfl, OwnAt.nil _ _ _ _, xz4⟩
        · have z1 : ((size : Int) == (b.length : Int)) = false := by simp; omega
          have z2 : ((size : Int) != (b.length : Int)) = true := by simp; omega
          go_wp2_with fail
          exact read_end hz4 rfl rfl rfl rfl ⟨none, 0, rfl, OwnAt.nil _ _ _ _, xz4⟩
      · have z1 : ((k : Int) == 1) = false := by simp; omega
        have z2 : ((k : Int) != 1) = true := by simp; omega
        go_wp2_with fail
        exact read_end hz4 rfl rfl rfl rfl ⟨none, 0, rfl, OwnAt.nil _ _ _ _, xz4⟩
  · have HR := HRO.out
    rw [if_pos q1] at HR
    subst HR
    have z1 : ((er : Int) == 0) = false := by simp; omega
    have z2 : ((er : Int) != 0) = true := by simp; omega
    go_wp2_with fail
    exact read_end hz4 rfl rfl rfl rfl ⟨none, 0, rfl, OwnAt.nil _ _ _ _, xz4⟩
end Go.Proofs.Ytmicclopokpgoaa
