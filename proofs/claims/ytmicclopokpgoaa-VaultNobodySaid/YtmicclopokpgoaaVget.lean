/- Package vault: a shard told. -/
import Derived.Test.YtmicclopokpgoaaVault
import Derived.Deep.RegionLaw
namespace Go.Proofs.Ytmicclopokpgoaa
open Go.RowKit
set_option linter.unusedVariables false
set_option linter.unusedSimpArgs false

/-- What Get tells. -/
def getOf (D : Dk) (L : List (Sh × Nat)) (s : Sh) : List UInt8 × Nat :=
  match lookL s L with
  | none => ([], 6)
  | some c =>
    if (readOf (D.read c)).2.2 ≠ 0 then ([], (readOf (D.read c)).2.2)
    else if (readOf (D.read c)).1 ≠ s then ([], 21)
    else ((readOf (D.read c)).2.1, 0)

/-- A shard's four numbers. -/
theorem Sh.form (s : Sh) : ∃ a b c d : Int, s.v = .agg #[.int .u32 a, .int .u16 b, .int .u16 c, .int .u32 d] ∧ s.cells = #[.int .u32 a, .int .u16 b, .int .u16 c, .int .u32 d] := ⟨_, _, _, _, rfl, rfl⟩

theorem Dk.read_len (D : Dk) (hok : D.ok) (c : Int) : (D.read c).length ≤ 4096 := by
  unfold Dk.read
  split
  · rename_i h
    have h0 : (D.cells.getD c.toNat []).length ≤ 4096 := by
      rw [List.getD_eq_getElem?_getD]
      cases hq : D.cells[c.toNat]? with
      | none => simp
      | some b => simpa using hok.2.2.1 b (List.mem_of_getElem? hq)
    have h1 := hok.2.2.2
    generalize D.loose = l at h1
    generalize D.cells.getD c.toNat [] = d at h0
    unfold lastOf
    induction l generalizing d with
    | nil => exact h0
    | cons x l ih =>
      simp only [List.foldl_cons]
      refine ih (fun y hy => h1 y (List.mem_cons_of_mem _ hy)) _ ?_
      split
      · exact (h1 x (List.mem_cons_self ..)).2
      · exact h0
  · simp

theorem gs_of {w : World} {q m p hs : Nat} {a b c d : Int} (hq : w.heap[q]? = some (.cells #[.pointer (some ⟨p, 0, none⟩), .map (some m)] 36 (0, 0))) (hb : w.heap[hs]? = some (.cells #[.int .u32 a, .int .u16 b, .int .u16 c, .int .u32 d] 25 (0, 0))) :
    w.cell? ⟨q, 0, none⟩ = some (.pointer (some ⟨p, 0, none⟩)) ∧ w.cell? ⟨q, 1, none⟩ = some (.map (some m)) ∧ w.cell? ⟨hs, 0, none⟩ = some (.int .u32 a) ∧ w.cell? ⟨hs, 1, none⟩ = some (.int .u16 b) ∧ w.cell? ⟨hs, 2, none⟩ = some (.int .u16 c) ∧ w.cell? ⟨hs, 3, none⟩ = some (.int .u32 d) :=
  ⟨cells_of hq 0, cells_of hq 1, cells_of hb 0, cells_of hb 1, cells_of hb 2, cells_of hb 3⟩
theorem s4_block {w : World} {b h : Nat} {o : Obj} {a0 a1 a2 a3 : Value} (hb : w.heap[b]? = some o) (hne : b ≠ h) :
    ((((w.setCell ⟨h, 0, none⟩ a0).setCell ⟨h, 1, none⟩ a1).setCell ⟨h, 2, none⟩ a2).setCell ⟨h, 3, none⟩ a3).heap[b]? = some o := by
  rw [set_other _ _ hne, set_other _ _ hne, set_other _ _ hne, set_other _ _ hne]; exact hb

theorem sh_neq (x y : Sh) (w : World) : (binOp .neq 25 x.v y.v).run Try.prog w = .ok (.bool (!decide (x = y))) w := by
  have h := sh_eq x y w
  unfold Op.equal Op.maxDepth at h
  unfold Sh.v at h ⊢
  rw [run_neq_struct, h]
  rfl
theorem Sh.v_inj {x y : Sh} (h : x.v = y.v) : x = y := by
  obtain ⟨a, b, c, d⟩ := x
  obtain ⟨a', b', c', d'⟩ := y
  simp only [Sh.v, Sh.cells, Value.agg.injEq, Array.mk.injEq, List.cons.injEq, Value.int.injEq, true_and, and_true] at h
  obtain ⟨h1, h2, h3, h4⟩ := h
  rw [UInt32.toNat_inj.1 (Int.ofNat.inj h1), UInt16.toNat_inj.1 (Int.ofNat.inj h2), UInt16.toNat_inj.1 (Int.ofNat.inj h3), UInt32.toNat_inj.1 (Int.ofNat.inj h4)]
theorem readOf_small (b : List UInt8) : (readOf b).2.2 ≤ 22 := by
  have := openOf_size b
  unfold readOf
  split
  · exact this.2.2.1
  · split <;> simp

set_option maxRecDepth 100000 in
set_option maxHeartbeats 1600000 in
theorem vget_calls (s : Sh) (S T : Foot) (q m p : Nat) (L : List (Sh × Nat)) (D : Dk) (w : World) (hT : Young T w) (hD : DiskAt w S p D) (h : VaultAt w q m p L) :
    Calls Try.prog 8 #[.pointer (some ⟨q, 0, none⟩), s.v] w fun e w' =>
      ∃ A c, e = .returned (.tuple #[.slice A (getOf D L s).1.length c, .int .i64 (getOf D L s).2]) ∧ OwnAt w' T 5 1 (.slice A (getOf D L s).1.length c) (getOf D L s).1.length (bytesV (getOf D L s).1) ∧ Ext noFoot w w' := by
  have hql := lt_of h.blk
  obtain ⟨W, hW⟩ : ∃ W, W = w.alloc (.cells s.cells 25) := ⟨_, rfl⟩
  have xW : Ext noFoot w W := by rw [hW]; exact (Ext.refl _ _).alloc _
  have hhas := vhas_calls s q m p L W (h.later xW)
  have hbx : W.heap[w.heap.size]? = some (.cells s.cells 25 (0, 0)) := by rw [hW]; exact alloc_at _ _
  have hgo : getOf D L s = match lookL s L with
    | none => ([], 6)
    | some c =>
      if (readOf (D.read c)).2.2 ≠ 0 then ([], (readOf (D.read c)).2.2)
      else if (readOf (D.read c)).1 ≠ s then ([], 21)
      else ((readOf (D.read c)).2.1, 0) := rfl
  obtain ⟨a, b, c, d, hsv, hsc⟩ := s.form
  rw [hsc] at hW hbx
  rw [hsv] at hhas ⊢
  have cx := cells_of hbx
  generalize getOf D L s = res at *
  have HH := Lib.hid hhas
  have HSV := Lib.hid hsv
  have HBX := Lib.hid hbx
  have HGO := Lib.hid hgo
  clear hhas hsv hbx hsc hgo
  cases hlk : lookL s L with
  | none =>
    have HLK := Lib.hid hlk
    clear hlk
    go_enter Try.func8, Try.ntmps8
    go_wp2_with fail
    rw [← hW]
    clear hW
    go_wp2_with fail
    refine HH.out.mono ?_
    rw [HLK.out]
    rintro e w1 ⟨rfl, hx1⟩
    have hg := HGO.out
    rw [HLK.out] at hg
    dsimp only at hg
    subst hg
    go_wp2_with fail
    go_ret2
    exact ⟨none, 0, rfl, OwnAt.nil _ _ _ _, xW.then hx1⟩
  | some k =>
    have HLK := Lib.hid hlk
    clear hlk
    go_enter Try.func8, Try.ntmps8
    go_wp2_with fail
    rw [← hW]
    clear hW
    go_wp2_with fail
    refine HH.out.mono ?_
    rw [HLK.out]
    rintro e w1 ⟨rfl, hx1⟩
    have x1 := xW.then hx1
    have h1 := h.later x1
    have c1 := cells_of h1.blk
    have hb1 := hx1.block HBX.out (fun h => h)
    have cx1 := cells_of hb1
    have hl := fun n => run_lookup MShard s (w1.drewN n) (h1.map.ext (S := noFoot) ((Ext.refl _ w1).drewN n) (fun h => h))
    have hl0 := run_lookup MShard s w1 h1.map
    have hl1 := run_lookup MShard s w1.drew (h1.map.ext (S := noFoot) ((Ext.refl _ w1).drew) (fun h => h))
    have hl2 := run_lookup MShard s (w1.alloc (.cells #[.int .u32 0, .int .u16 0, .int .u16 0, .int .u32 0] 25)).drew (h1.map.ext (S := noFoot) (((Ext.refl _ w1).alloc _).drew) (fun h => h))
    have hl3 := run_lookup MShard s (w1.alloc (.cells #[.int .u32 0, .int .u16 0, .int .u16 0, .int .u32 0] 25)) (h1.map.ext (S := noFoot) ((Ext.refl _ w1).alloc _) (fun h => h))
    rw [HSV.out, HLK.out] at hl hl0 hl1 hl2 hl3
    unfold natV at hl hl0 hl1 hl2 hl3
    simp only [Option.getD_some] at hl hl0 hl1 hl2 hl3
    have hD1 := hD.ext x1 (fun _ _ _ h => h)
    have hrd := fun wx (x : Ext noFoot w1 wx) => dread_calls k S (young w) p D wx (fun b hb => Nat.le_trans x1.size (Nat.le_trans x.size hb)) (hD1.ext x (fun _ _ _ h => h))
    have hrl := D.read_len hD.1 k
    obtain ⟨bs, hbs⟩ : ∃ bs, bs = D.read k := ⟨_, rfl⟩
    rw [← hbs] at hrl
    simp only [← hbs] at hrd
    have HRD := Lib.hid hrd
    clear hrd
    have hvr := fun A n wx (ho : OwnAt wx (young w) 5 1 (.slice A bs.length n) bs.length (bytesV bs)) (hTx : Young T wx) => vread_calls _ bs _ (fun x => T x ∧ wx.heap.size ≤ x) wx (fun x hx => ⟨hTx x hx, hx⟩) (BytesAt.ofOwnAt ho) (by omega)
    unfold Reads at hvr
    have hgo := HGO.out
    rw [HLK.out] at hgo
    dsimp only at hgo
    clear HGO
    rw [← hbs] at hgo
    clear hbs
    have hrc := readOf_small bs
    generalize readOf bs = r at *
    obtain ⟨t, data, er⟩ := r
    obtain ⟨a', b', c', d', htv, htc⟩ := t.form
    simp only [htv] at hvr
    simp only at hgo hrc
    have HVR := Lib.hid hvr
    have HGO := Lib.hid hgo
    have HTC := Lib.hid htc
    have HTV := Lib.hid htv
    clear hvr hgo htc htv
    have hend : ∀ (W4 : World) (hT4 : Nat), W4.heap[hT4]? = some (.cells #[.int .u32 a', .int .u16 b', .int .u16 c', .int .u32 d'] 25 (0, 0)) → W4.heap[w.heap.size]? = some (.cells #[.int .u32 a, .int .u16 b, .int .u16 c, .int .u32 d] 25 (0, 0)) → True := fun _ _ _ _ => trivial
    have e0 : Ext noFoot w1 w1.drew := (Ext.refl _ _).drew
    have e1 : Ext noFoot w1 (w1.alloc (.cells #[.int .u32 0, .int .u16 0, .int .u16 0, .int .u32 0] 25)).drew := ((Ext.refl _ _).alloc _).drew
    have hw1l := lt_of hb1
    have nq1 : q ≠ w1.heap.size := Nat.ne_of_lt (lt_of h1.blk)
    have nb1 : w.heap.size ≠ w1.heap.size := Nat.ne_of_lt hw1l
    have hzd : (w1.alloc (.cells #[.int .u32 0, .int .u16 0, .int .u16 0, .int .u32 0] 25)).drew.heap[w1.heap.size]? = some (.cells #[.int .u32 0, .int .u16 0, .int .u16 0, .int .u32 0] 25) := alloc_at w1 _
    go_wp2_with fail
    go_region_held3 (fun w' => w'.cell? ⟨q, 0, none⟩ = some (.pointer (some ⟨p, 0, none⟩)) ∧ w'.cell? ⟨q, 1, none⟩ = some (.map (some m)) ∧ w'.cell? ⟨w.heap.size, 0, none⟩ = some (.int .u32 a) ∧ w'.cell? ⟨w.heap.size, 1, none⟩ = some (.int .u16 b) ∧ w'.cell? ⟨w.heap.size, 2, none⟩ = some (.int .u16 c) ∧ w'.cell? ⟨w.heap.size, 3, none⟩ = some (.int .u32 d))
      (first | with_reducible exact gs_of hq3 hb3 | with_reducible exact gs_of (alloc_block _ hq3) (alloc_block _ hb3) | with_reducible exact gs_of hq2 hb2 | with_reducible exact gs_of (alloc_block _ hq2) (alloc_block _ hb2) | with_reducible exact gs_of (alloc_block _ h1.blk) (alloc_block _ hb1) | with_reducible exact gs_of (s4_block hq3 nq1) (s4_block hb3 nb1) | with_reducible exact gs_of (s4_block hq3 nq2) (s4_block hb3 nb2) | go_keep)
      (first
        | (go_at_call 52; (with_reducible refine (HRD.out _ e0).mono ?_); rintro e w2 ⟨A2, n2, rfl, ho2, hx2⟩; have x12 := e0.then hx2; have hq2 := x12.block h1.blk (fun h => h); have hb2 := x12.block hb1 (fun h => h); have x2 := x1.then x12; have nq2 : q ≠ w2.heap.size := Nat.ne_of_lt (lt_of hq2); have nb2 : w.heap.size ≠ w2.heap.size := Nat.ne_of_lt (lt_of hb2))
        | (go_at_call 52; (with_reducible refine (HRD.out _ e1).mono ?_); rintro e w2 ⟨A2, n2, rfl, ho2, hx2⟩; have hz2 := hx2.block hzd (fun h => h); have x12 := e1.then hx2; have hq2 := x12.block h1.blk (fun h => h); have hb2 := x12.block hb1 (fun h => h); have x2 := x1.then x12; have nq2 : q ≠ w2.heap.size := Nat.ne_of_lt (lt_of hq2); have nb2 : w.heap.size ≠ w2.heap.size := Nat.ne_of_lt (lt_of hb2))
        | (go_at_call 51; (with_reducible refine (HVR.out A2 n2 w2 ho2 (hT.later x2)).mono ?_); rintro e w3 ⟨A3, n3, rfl, ho3, hx3⟩; have hz3 := hx3.block hz2 (fun h => h); have cz3 := cells_of hz3; have fz3 := free_of hz3; have hq3 := hx3.block hq2 (fun h => h); have hb3 := hx3.block hb2 (fun h => h))
        | (go_at_call 51; (with_reducible refine (HVR.out A2 n2 w2 ho2 (hT.later x2)).mono ?_); rintro e w3 ⟨A3, n3, rfl, ho3, hx3⟩; have hq3 := hx3.block hq2 (fun h => h); have hb3 := hx3.block hb2 (fun h => h))
        | (go_at_call 51; (with_reducible refine (HVR.out A2 n2 _ (ho2.alloc _) ((hT.later x2).alloc _)).mono ?_); rintro e w3 ⟨A3, n3, rfl, ho3, hx3⟩; have hz3 := hx3.block (alloc_at w2 _) (fun h => h); have cz3 := cells_of hz3; have fz3 := free_of hz3; have hq3 := hx3.block (alloc_block _ hq2) (fun h => h); have hb3 := hx3.block (alloc_block _ hb2) (fun h => h)))
    all_goals
      have hfin : ∃ (W4 : World) (hT4 : Nat), W4 = W4 ∧ hT4 = hT4 := ⟨w, 0, rfl, rfl⟩
      clear hfin hend hl hl0 hl1 hl2 hl3 cx
      first
        | (have x3 := x2.then hx3
           have hbT := set4_heap (show w3.heap[w1.heap.size]? = _ from hz3) (.int .u32 a') (.int .u16 b') (.int .u16 c') (.int .u32 d')
           have hbS := s4_block (a0 := .int .u32 a') (a1 := .int .u16 b') (a2 := .int .u16 c') (a3 := .int .u32 d') hb3 nb1
           have x4 := set4_ext x3 (b := w1.heap.size) (fun h => absurd h (by have := x1.size; omega)) (.int .u32 a') (.int .u16 b') (.int .u16 c') (.int .u32 d')
           have ho4 := set4_own (ho3.mono (T := T) (fun _ _ h => h.1)) (b := w1.heap.size) (fun e => by have := (ho3.2 _ e.symm).2; have := lt_of hz2; omega) (.int .u32 a') (.int .u16 b') (.int .u16 c') (.int .u32 d')
           unfold set4 at hbT x4 ho4
           generalize ((((w3.setCell ⟨w1.heap.size, 0, none⟩ (.int .u32 a')).setCell ⟨w1.heap.size, 1, none⟩ (.int .u16 b')).setCell ⟨w1.heap.size, 2, none⟩ (.int .u16 c')).setCell ⟨w1.heap.size, 3, none⟩ (.int .u32 d')) = W4 at *
           generalize w1.heap.size = hT4 at hbT ⊢)
        | (have x3 := x2.then (((Ext.refl _ w2).alloc _).then hx3)
           have hbT := set4_heap (show w3.heap[w2.heap.size]? = _ from hz3) (.int .u32 a') (.int .u16 b') (.int .u16 c') (.int .u32 d')
           have hbS := s4_block (a0 := .int .u32 a') (a1 := .int .u16 b') (a2 := .int .u16 c') (a3 := .int .u32 d') hb3 nb2
           have x4 := set4_ext x3 (b := w2.heap.size) (fun h => absurd h (by have := x2.size; omega)) (.int .u32 a') (.int .u16 b') (.int .u16 c') (.int .u32 d')
           have ho4 := set4_own (ho3.mono (T := T) (fun _ _ h => h.1)) (b := w2.heap.size) (fun e => by have := (ho3.2 _ e.symm).2; simp at this; omega) (.int .u32 a') (.int .u16 b') (.int .u16 c') (.int .u32 d')
           unfold set4 at hbT x4 ho4
           generalize ((((w3.setCell ⟨w2.heap.size, 0, none⟩ (.int .u32 a')).setCell ⟨w2.heap.size, 1, none⟩ (.int .u16 b')).setCell ⟨w2.heap.size, 2, none⟩ (.int .u16 c')).setCell ⟨w2.heap.size, 3, none⟩ (.int .u32 d')) = W4 at *
           generalize w2.heap.size = hT4 at hbT ⊢)
        | (have x3 := x2.then hx3
           have hbT := alloc_at w3 (.cells #[.int .u32 a', .int .u16 b', .int .u16 c', .int .u32 d'] 25)
           have hbS := alloc_block (.cells #[.int .u32 a', .int .u16 b', .int .u16 c', .int .u32 d'] 25) hb3
           have x4 := x3.alloc (.cells #[.int .u32 a', .int .u16 b', .int .u16 c', .int .u32 d'] 25)
           have ho4 := (ho3.mono (T := T) (fun _ _ h => h.1)).alloc (.cells #[.int .u32 a', .int .u16 b', .int .u16 c', .int .u32 d'] 25)
           generalize w3.alloc (.cells #[.int .u32 a', .int .u16 b', .int .u16 c', .int .u32 d'] 25) = W4 at *
           generalize w3.heap.size = hT4 at hbT ⊢)
    all_goals
      have cT := cells_of hbT
      have cS := cells_of hbS
      clear cx1 c1
      by_cases q1 : er = 0
      · subst q1
        by_cases q2 : t = s
        · have hg := HGO.out
          rw [if_neg (fun h => h rfl), if_neg (fun h => h q2)] at hg
          subst hg
          have hv := HTV.out.symm.trans ((congrArg Sh.v q2).trans HSV.out)
          simp only [Value.agg.injEq, Array.mk.injEq, List.cons.injEq, Value.int.injEq, true_and, and_true] at hv
          obtain ⟨rfl, rfl, rfl, rfl⟩ := hv
          go_wp2_with fail
          go_ret2
          exact ⟨A3, n3, rfl, ho4, x4⟩
        · have hg := HGO.out
          rw [if_neg (fun h => h rfl), if_pos q2] at hg
          subst hg
          go_wp2_with fail
          all_goals first
            | (refine absurd (Sh.v_inj (HTV.out.trans (Eq.trans ?_ HSV.out.symm))) q2
               simp only [Value.agg.injEq, Array.mk.injEq, List.cons.injEq, Value.int.injEq, true_and, and_true]
               refine ⟨?_, ?_, ?_, ?_⟩ <;> first | assumption | (apply Eq.symm; assumption) | rfl)
            | (go_ret2; exact ⟨none, 0, rfl, OwnAt.nil _ _ _ _, x4⟩)
      · have hg := HGO.out
        rw [if_pos q1] at hg
        subst hg
        have z1 : ((er : Int) == 0) = false := by simp; omega
        have z2 : ((er : Int) != 0) = true := by simp; omega
        go_wp2_with fail
        go_ret2
        exact ⟨none, 0, rfl, OwnAt.nil _ _ _ _, x4⟩
end Go.Proofs.Ytmicclopokpgoaa
