/- Package vault: a shard written. -/
import Derived.Test.YtmicclopokpgoaaVfree
namespace Go.Proofs.Ytmicclopokpgoaa
open Go.RowKit
set_option linter.unusedVariables false
set_option linter.unusedSimpArgs false

/-- What Begin does: the disk, what is known, an error's number. -/
def beginOf (D : Dk) (L : List (Sh × Nat)) (s : Sh) (data : List UInt8) : Dk × List (Sh × Nat) × Nat :=
  if (lookL s L).isSome then (D, L, 7)
  else if D.size < 24 + data.length then (D, L, 29)
  else match freeOf D.cells.length L with
    | none => (D, L, 20)
    | some c => (D.write c (frameV s data), L ++ [(s, c)], 0)
theorem boolAt_lt (b : Bool) (l : List Bool) (i c : Nat) (h : boolAt b l i = some c) : i ≤ c ∧ c < i + l.length := by
  induction l generalizing i with
  | nil => simp [boolAt] at h
  | cons x l ih =>
    unfold boolAt at h
    split at h
    · simp at h; subst h; simp
    · have := ih (i + 1) h
      simp; omega
theorem freeOf_lt {n : Nat} {L : List (Sh × Nat)} {c : Nat} (h : freeOf n L = some c) : c < n := by
  have := boolAt_lt _ _ _ _ h
  rw [usedOf_length] at this
  omega
theorem putL_new {κ V : Type} [DecidableEq κ] {x : κ} {v : V} {l : List (κ × V)} (h : (lookL x l).isSome = false) : putL x v l = l ++ [(x, v)] := by
  unfold lookL at h
  unfold putL
  cases hf : findIx x l 0 with
  | none => rfl
  | some y => simp [hf] at h

set_option maxRecDepth 100000 in
set_option maxHeartbeats 1600000 in
theorem vbegin_calls (s : Sh) (vb : Value) (data : List UInt8) (F S : Foot) (q m p : Nat) (L : List (Sh × Nat)) (D : Dk) (w : World) (hS : Young S w) (hD : DiskAt w S p D) (h : VaultAt w q m p L) (hb : BytesAt w F vb data)
    (hL : ∀ x ∈ L, x.2 < D.cells.length) (hSq : ¬ S q) (hSm : ¬ S m) (hlen : data.length ≤ 65524) (hmany : D.loose.length ≤ 1000000) :
    Calls Try.prog 15 #[.pointer (some ⟨q, 0, none⟩), s.v, vb] w fun e w' => e = .returned (.int .i64 (beginOf D L s data).2.2) ∧ DiskAt w' S p (beginOf D L s data).1 ∧ VaultAt w' q m p (beginOf D L s data).2.1 ∧ Ext (fun b => S b ∨ b = m) w w' := by
  have hql := lt_of h.blk
  have hml := h.map.lt
  obtain ⟨W, hW⟩ : ∃ W, W = w.alloc (.cells s.cells 25) := ⟨_, rfl⟩
  have xW : Ext noFoot w W := by rw [hW]; exact (Ext.refl _ _).alloc _
  have hbx : W.heap[w.heap.size]? = some (.cells s.cells 25 (0, 0)) := by rw [hW]; exact alloc_at _ _
  have hWs : w.heap.size < W.heap.size := lt_of hbx
  -- the disk may not use the block of the name
  have hD0 : DiskAt w (fun b => S b ∧ b ≠ w.heap.size) p D := hD.mono (fun b hb hs => ⟨hs, by omega⟩)
  have hSW : Young (fun b => S b ∧ b ≠ w.heap.size) W := fun b hb => ⟨hS b (by omega), by omega⟩
  have hfr := vframe_calls s vb data F (fun b => S b ∧ b ≠ w.heap.size) W hSW (hb.later xW) hlen
  have hbo : beginOf D L s data = if (lookL s L).isSome then (D, L, 7)
    else if D.size < 24 + data.length then (D, L, 29)
    else match freeOf D.cells.length L with
      | none => (D, L, 20)
      | some c => (D.write c (frameV s data), L ++ [(s, c)], 0) := rfl
  obtain ⟨a, b, c, d, hsv, hsc⟩ := s.form
  obtain ⟨A, n, rfl, _⟩ := hb.open
  rw [hsc] at hW hbx
  rw [hsv] at hfr ⊢
  have cx := cells_of hbx
  generalize beginOf D L s data = res at *
  have HFR := Lib.hid hfr
  have HSV := Lib.hid hsv
  have HBX := Lib.hid hbx
  have HBO := Lib.hid hbo
  clear hfr hsv hbx hsc hbo
  have c0 := cells_of h.blk
  go_enter Try.func15, Try.ntmps15
  go_wp2_with fail
  rw [← hW]
  clear hW c0
  refine HFR.out.mono ?_
  rintro e w1 ⟨A1, n1, rfl, ho1, hx1⟩
  have x1 := xW.then hx1
  have h1 := h.later x1
  have c1 := cells_of h1.blk
  have hb1 := hx1.block HBX.out (fun h => h)
  have k1 := cells_of hb1
  have hD1 := hD0.ext x1 (fun _ _ _ h => h)
  have hdl := dlen_calls _ p D w1 hD1
  have HDL := Lib.hid hdl
  clear hdl cx
  go_wp2_with fail
  refine HDL.out.mono ?_
  rintro e w2 ⟨rfl, hx2⟩
  have x2 := x1.then hx2
  have h2 := h.later x2
  have c2 := cells_of h2.blk
  have hb2 := hx2.block hb1 (fun h => h)
  have k2 := cells_of hb2
  have hhas := vhas_calls s q m p L w2 h2
  rw [HSV.out] at hhas
  have HH := Lib.hid hhas
  clear hhas
  go_wp2_with fail
  refine HH.out.mono ?_
  cases hlk : (lookL s L).isSome with
  | true =>
    have hr := HBO.out
    rw [if_pos hlk] at hr
    subst hr
    rintro e w3 ⟨rfl, hx3⟩
    have x3 := x2.then hx3
    clear hlk
    go_wp2_with fail
    go_ret
    exact ⟨rfl, hD.ext x3 (fun _ _ _ h => h), h.later x3, x3.mono (fun _ _ h => h.elim)⟩
  | false =>
    have hr := HBO.out
    rw [if_neg (by rw [hlk]; simp)] at hr
    have HLK := Lib.hid hlk
    have HR := Lib.hid hr
    clear hlk hr HBO
    rintro e w3 ⟨rfl, hx3⟩
    have x3 := x2.then hx3
    by_cases q1 : D.size < 24 + data.length
    · have hr := HR.out
      rw [if_pos q1] at hr
      subst hr
      have z1 : (((24 + data.length : Nat) : Int) == 0) = false := by simp; omega
      go_wp2_with fail
      go_ret
      exact ⟨rfl, hD.ext x3 (fun _ _ _ h => h), h.later x3, x3.mono (fun _ _ h => h.elim)⟩
    · have hr := HR.out
      rw [if_neg q1] at hr
      have HR2 := Lib.hid hr
      clear hr HR
      have z0 : (24 + (data.length : Int) == 0) = false := by simp; omega
      have hle2 : (24 : Int) + (data.length : Int) ≤ (D.size : Int) := by omega
      have z1 : (((24 + data.length : Nat) : Int) == 0) = false := by simp; omega
      have h3 := h.later x3
      have c3 := cells_of h3.blk
      have hb3 := hx3.block hb2 (fun h => h)
      have hD3 := hD0.ext x3 (fun _ _ _ h => h)
      have hfree := vfree_calls _ q m p L D w3 hD3 h3 hL
      have HF := Lib.hid hfree
      clear hfree c2 k2
      go_wp2_with fail
      refine HF.out.mono ?_
      cases hfc : freeOf D.cells.length L with
      | none =>
        have hr := HR2.out
        rw [hfc] at hr
        dsimp only at hr
        subst hr
        clear hfc
        rintro e w4 ⟨rfl, hx4⟩
        have x4 := x3.then hx4
        unfold optV
        dsimp only
        go_wp2_with fail
        go_ret
        exact ⟨rfl, hD.ext x4 (fun _ _ _ h => h), h.later x4, x4.mono (fun _ _ h => h.elim)⟩
      | some cl =>
        have hr := HR2.out
        rw [hfc] at hr
        dsimp only at hr
        subst hr
        have hcl := freeOf_lt hfc
        clear hfc
        rintro e w4 ⟨rfl, hx4⟩
        have x4 := x3.then hx4
        unfold optV
        dsimp only
        have h4 := h.later x4
        have c4 := cells_of h4.blk
        have hb4 := hx4.block hb3 (fun h => h)
        have hD4 := hD0.ext x4 (fun _ _ _ h => h)
        have hbf : BytesAt w4 (fun _ => True) (.slice A1 (24 + data.length) n1) (frameV s data) := by
          have := BytesAt.ofOwnAt (ho1.bytes rfl)
          exact this.keep (((hx2.then hx3).then hx4)) (fun _ _ _ h => h) (fun _ _ _ => trivial)
        have hwr := dwrite_ok cl _ (frameV s data) _ _ p D w4 (hSW.later (Ext.then (S := noFoot) ((hx1.then hx2).then hx3) hx4)) hD4 hbf hcl (by rw [frameV_length]; omega) hmany
        have HW := Lib.hid hwr
        clear hwr c3
        go_wp2_with fail
        refine HW.out.mono ?_
        rintro e w5 ⟨rfl, hD5, hx5⟩
        have hx5' : Ext S w4 w5 := hx5.mono (fun _ _ h => h.1)
        have h5 := h4.ext hx5 (fun h => hSq h.1) (fun h => hSm h.1)
        have hb5 := hx5.block hb4 (fun h => h.2 rfl)
        have c5 := cells_of h5.blk
        have k5 := cells_of hb5
        obtain ⟨w6, hmu, hmap6, hx6⟩ := run_mapUpdate MShard s cl w5.drew (h5.map.ext (S := noFoot) (Ext.refl _ w5).drew (fun h => h))
        have h6 : VaultAt w6 q m p (L ++ [(s, cl)]) := ⟨hx6.block (a := w5.drew) h5.blk (fun e => h5.ne e.symm), by rw [← putL_new HLK.out]; exact hmap6⟩
        have hD6 : DiskAt w6 S p (D.write cl (frameV s data)) := (hD5.mono (T := S) (fun _ _ h => h.1)).ext (Ext.trans (b := w5.drew) (Ext.refl (one m) w5).drew hx6 (fun _ _ h => h)) (fun b hb hs (e : b = m) => hSm (e ▸ hs))
        have x6 : Ext (fun b => S b ∨ b = m) w w6 := ((x4.mono (fun _ _ h => h.elim)).trans (hx5'.mono (T := fun b => S b ∨ b = m) (fun _ _ h => .inl h)) (fun _ _ h => h)).trans (Ext.trans (b := w5.drew) (Ext.refl (one m) w5).drew hx6 (fun _ _ h => h)) (fun b _ (e : b = m) => .inr e)
        rw [HSV.out] at hmu
        unfold natV at hmu
        clear c4 c1 k1 z1
        go_wp2_with fail
        go_region
        all_goals
          go_wp2_with fail
          go_ret
          exact ⟨rfl, hD6, h6, x6⟩

/-- What Put does. -/
def putOf (D : Dk) (L : List (Sh × Nat)) (s : Sh) (data : List UInt8) : Dk × List (Sh × Nat) × Nat :=
  if (beginOf D L s data).2.2 ≠ 0 then beginOf D L s data else ((beginOf D L s data).1.sync, (beginOf D L s data).2.1, 0)
theorem beginOf_err (D : Dk) (L : List (Sh × Nat)) (s : Sh) (data : List UInt8) : (beginOf D L s data).2.2 ≤ 29 := by
  unfold beginOf
  split
  · simp
  · split
    · simp
    · split <;> simp

set_option maxRecDepth 100000 in
set_option maxHeartbeats 800000 in
theorem vput_calls (s : Sh) (vb : Value) (data : List UInt8) (F S : Foot) (q m p : Nat) (L : List (Sh × Nat)) (D : Dk) (w : World) (hS : Young S w) (hD : DiskAt w S p D) (h : VaultAt w q m p L) (hb : BytesAt w F vb data)
    (hL : ∀ x ∈ L, x.2 < D.cells.length) (hSq : ¬ S q) (hSm : ¬ S m) (hlen : data.length ≤ 65524) (hmany : D.loose.length ≤ 1000000) :
    Calls Try.prog 16 #[.pointer (some ⟨q, 0, none⟩), s.v, vb] w fun e w' => e = .returned (.int .i64 (putOf D L s data).2.2) ∧ DiskAt w' S p (putOf D L s data).1 ∧ VaultAt w' q m p (putOf D L s data).2.1 ∧ Ext (fun b => S b ∨ b = m) w w' := by
  have hql := lt_of h.blk
  have hml := h.map.lt
  obtain ⟨W, hW⟩ : ∃ W, W = w.alloc (.cells s.cells 25) := ⟨_, rfl⟩
  have xW : Ext noFoot w W := by rw [hW]; exact (Ext.refl _ _).alloc _
  have hSW : Young S W := hS.later xW
  have hbg := vbegin_calls s vb data F S q m p L D W hSW (hD.ext xW (fun _ _ _ h => h)) (h.later xW) (hb.later xW) hL hSq hSm hlen hmany
  have hpo : putOf D L s data = if (beginOf D L s data).2.2 ≠ 0 then beginOf D L s data else ((beginOf D L s data).1.sync, (beginOf D L s data).2.1, 0) := rfl
  have hbe := beginOf_err D L s data
  obtain ⟨a, b, c, d, hsv, hsc⟩ := s.form
  obtain ⟨A, n, rfl, _⟩ := hb.open
  rw [hsc] at hW
  rw [hsv] at hbg ⊢
  generalize putOf D L s data = res at *
  generalize beginOf D L s data = r at *
  obtain ⟨D1, L1, er⟩ := r
  simp only at hpo hbe hbg
  have HB := Lib.hid hbg
  have HP := Lib.hid hpo
  clear hbg hpo
  go_enter Try.func16, Try.ntmps16
  go_wp2_with fail
  rw [← hW]
  clear hW
  refine HB.out.mono ?_
  rintro e w1 ⟨rfl, hD1, h1, hx1⟩
  have x1 := Ext.after xW hx1
  by_cases q1 : er = 0
  · subst q1
    have hp := HP.out
    rw [if_neg (fun h => h rfl)] at hp
    subst hp
    have c1 := cells_of h1.blk
    have hsy := dsync_calls S p D1 w1 (hSW.later hx1) hD1
    have HS := Lib.hid hsy
    clear hsy
    go_wp2_with fail
    refine HS.out.mono ?_
    rintro e w2 ⟨rfl, hD2, hx2⟩
    go_wp2_with fail
    go_ret
    exact ⟨rfl, hD2, h1.ext hx2 hSq hSm, x1.trans hx2 (fun _ _ h => .inl h)⟩
  · have hp := HP.out
    rw [if_pos q1] at hp
    subst hp
    have z1 : ((er : Int) == 0) = false := by simp; omega
    have z2 : ((er : Int) != 0) = true := by simp; omega
    go_wp2_with fail
    go_ret
    exact ⟨rfl, hD1, h1, x1⟩
end Go.Proofs.Ytmicclopokpgoaa
