/- Layer 12's law VaultNobody: the walk. -/
import Derived.Test.YtmicclopokpgoaaAwake
namespace Go.Proofs.Ytmicclopokpgoaa
open Go.RowKit
set_option linter.unusedVariables false
set_option linter.unusedSimpArgs false

theorem cmp_less (x y : Sh) : ((cmpS x y == -1) = lessS x y) ∧ ((cmpS x y == 1) = lessS y x) ∧ ((cmpS x y == 0) = decide (x = y)) := by
  have e : decide (x = y) = decide (x.ob.toNat = y.ob.toNat ∧ x.st.toNat = y.st.toNat ∧ x.sl.toNat = y.sl.toNat ∧ x.gn.toNat = y.gn.toNat) := by
    obtain ⟨a, b, c, d⟩ := x
    obtain ⟨a', b', c', d'⟩ := y
    rw [Bool.eq_iff_iff]
    simp [← UInt32.toNat_inj, ← UInt16.toNat_inj]
  rw [e]
  unfold cmpS lessS
  generalize x.ob.toNat = a
  generalize x.st.toNat = b
  generalize x.sl.toNat = c
  generalize x.gn.toNat = d
  generalize y.ob.toNat = a'
  generalize y.st.toNat = b'
  generalize y.sl.toNat = c'
  generalize y.gn.toNat = d'
  simp only [orL, cmpI]
  by_cases h1 : a = a'
  · subst h1
    by_cases h2 : b = b'
    · subst h2
      by_cases h3 : c = c'
      · subst h3
        rcases Nat.lt_trichotomy d d' with h | h | h
        · simp [h, Nat.lt_asymm h, Nat.ne_of_lt h, Int.ofNat_lt]
        · subst h; simp
        · simp [h, Nat.lt_asymm h, Nat.ne_of_gt h, Int.ofNat_lt]
      · rcases Nat.lt_or_gt_of_ne h3 with h | h <;> simp [h, h3, Nat.lt_asymm h, Ne.symm h3, Int.ofNat_lt]
    · rcases Nat.lt_or_gt_of_ne h2 with h | h <;> simp [h, h2, Nat.lt_asymm h, Ne.symm h2, Int.ofNat_lt]
  · rcases Nat.lt_or_gt_of_ne h1 with h | h <;> simp [h, h1, Nat.lt_asymm h, Ne.symm h1, Int.ofNat_lt]

set_option maxRecDepth 100000 in
set_option maxHeartbeats 3200000 in
theorem nobody_calls (x y : Sh) (w : World) : Calls Try.prog 3 #[x.v, y.v] w fun e w' => e = .returned (.bool true) ∧ Ext noFoot w w' := by
  obtain ⟨hc1, hc2, hc3⟩ := cmp_less x y
  have hcm := fun w => compare_calls x y w
  have hl1 := fun w => less_calls x y w
  have hl2 := fun w => less_calls y x w
  have hhn := fun w => vhas_nil x w
  have hgn := fun w => vget_hasnt (.pointer none) x w (fun wx _ => vhas_nil x wx)
  have hcn := fun w => vcell_hasnt (.pointer none) x w (fun wx _ => vhas_nil x wx)
  have hgz := fun q w (h : ZeroAt w q) => vget_hasnt (.pointer (some ⟨q, 0, none⟩)) x w (fun wx e => vhas_zero x q wx (e.block h (fun h => h)))
  have hbn := fun v w (h : NoVault w v) => vbegin_none v x none 0 0 w h
  have hpn := fun v w (h : NoVault w v) => vput_none v x none 0 0 w h
  have hdn := fun v w (h : NoVault w v) => vdrop_none v x w h
  obtain ⟨a, b, c, d, hsv, hsc⟩ := x.form
  obtain ⟨a', b', c', d', hsv', hsc'⟩ := y.form
  rw [hsv, hsv']
  simp only [hsv, hsv'] at hcm hl1 hl2 hhn hgn hcn hgz hbn hpn hdn
  obtain ⟨W, hW⟩ : ∃ W, W = (w.alloc (.cells #[.int .u32 a, .int .u16 b, .int .u16 c, .int .u32 d] 25)).alloc (.cells #[.int .u32 a', .int .u16 b', .int .u16 c', .int .u32 d'] 25) := ⟨_, rfl⟩
  have xW : Ext noFoot w W := by rw [hW]; exact ((Ext.refl _ _).alloc _).alloc _
  have hb1 : W.heap[w.heap.size]? = some (.cells #[.int .u32 a, .int .u16 b, .int .u16 c, .int .u32 d] 25 (0, 0)) := by rw [hW]; exact alloc_block _ (alloc_at _ _)
  have hb2 : W.heap[w.heap.size + 1]? = some (.cells #[.int .u32 a', .int .u16 b', .int .u16 c', .int .u32 d'] 25 (0, 0)) := by
    rw [hW]
    have := alloc_at (w.alloc (.cells #[.int .u32 a, .int .u16 b, .int .u16 c, .int .u32 d] 25)) (.cells #[.int .u32 a', .int .u16 b', .int .u16 c', .int .u32 d'] 25)
    rw [show (w.alloc (.cells #[.int .u32 a, .int .u16 b, .int .u16 c, .int .u32 d] 25)).heap.size = w.heap.size + 1 by simp] at this
    exact this
  have hkeep : ∀ wx, Ext noFoot W wx → (∀ i, wx.cell? ⟨w.heap.size, i, none⟩ = #[Value.int .u32 a, .int .u16 b, .int .u16 c, .int .u32 d][i]?) ∧ (∀ i, wx.cell? ⟨w.heap.size + 1, i, none⟩ = #[Value.int .u32 a', .int .u16 b', .int .u16 c', .int .u32 d'][i]?) ∧ w.heap.size < wx.heap.size ∧ w.heap.size + 1 < wx.heap.size := fun wx e => ⟨cells_of (e.block hb1 (fun h => h)), cells_of (e.block hb2 (fun h => h)), lt_of (e.block hb1 (fun h => h)), lt_of (e.block hb2 (fun h => h))⟩
  have hls : w.heap.size + 1 < W.heap.size := lt_of hb2
  have HC1 := Lib.hid hc1
  have HC2 := Lib.hid hc2
  have HC3 := Lib.hid hc3
  have HCM := Lib.hid hcm
  have HL1 := Lib.hid hl1
  have HL2 := Lib.hid hl2
  have HHN := Lib.hid hhn
  have HGN := Lib.hid hgn
  have HCN := Lib.hid hcn
  have HGZ := Lib.hid hgz
  have HBN := Lib.hid hbn
  have HPN := Lib.hid hpn
  have HDN := Lib.hid hdn
  have HK := Lib.hid hkeep
  have HSV := Lib.hid hsv
  have HSV' := Lib.hid hsv'
  clear hc1 hc2 hc3 hcm hl1 hl2 hhn hgn hcn hgz hbn hpn hdn hkeep hsv hsv' hsc hsc' hb1 hb2
  go_enter Try.func3, Try.ntmps3
  go_wp2_with fail
  rw [← hW]
  clear hW
  refine (vopen_nil W).mono ?_
  rintro e w1 ⟨rfl, rfl⟩
  have x0 : Ext noFoot W W := Ext.refl _ _
  obtain ⟨k0, k1, l0, l1⟩ := HK.out W x0
  go_wp2_with fail
  refine (HGN.out W).mono ?_
  rintro e w1 ⟨rfl, hxw1⟩
  have x1 := x0.then hxw1
  clear k0 k1 l0 l1
  obtain ⟨k0, k1, l0, l1⟩ := HK.out w1 x1
  go_wp2_with fail
  refine (HGZ.out w1.heap.size (w1.alloc (.cells #[.pointer none, .map none] 36)) (alloc_at w1 _)).mono ?_
  rintro e w2 ⟨rfl, hxw2⟩
  have x2 := (x1.alloc (.cells #[.pointer none, .map none] 36)).then hxw2
  clear k0 k1 l0 l1
  obtain ⟨k0, k1, l0, l1⟩ := HK.out w2 x2
  go_wp2_with fail
  refine (HCM.out w2).mono ?_
  rintro e w3 ⟨rfl, hxw3⟩
  have x3 := x2.then hxw3
  clear k0 k1 l0 l1
  obtain ⟨n, hn⟩ : ∃ n, n = cmpS x y := ⟨_, rfl⟩
  have n1 := HC1.out
  have n2 := HC2.out
  have n3 := HC3.out
  rw [← hn] at n1 n2 n3 ⊢
  clear hn
  have n1' : (n == -1) = lessS x y := n1
  generalize lessS x y = p1 at *
  generalize lessS y x = p2 at *
  obtain ⟨k0, k1, l0, l1⟩ := HK.out w3 x3
  go_wp2_with fail
  refine (HL1.out w3).mono ?_
  rintro e w4 ⟨rfl, hxw4⟩
  have x4 := x3.then hxw4
  clear k0 k1 l0 l1
  obtain ⟨k0, k1, l0, l1⟩ := HK.out w4 x4
  go_wp2_with fail
  refine (HL2.out w4).mono ?_
  rintro e w5 ⟨rfl, hxw5⟩
  have x5 := x4.then hxw5
  clear k0 k1 l0 l1
  have hcase : (decide (x = y) = true ∧ a = a' ∧ b = b' ∧ c = c' ∧ d = d') ∨ (decide (x = y) = false ∧ (a ≠ a' ∨ (a = a' ∧ b ≠ b') ∨ (a = a' ∧ b = b' ∧ c ≠ c') ∨ (a = a' ∧ b = b' ∧ c = c' ∧ d ≠ d'))) := by
    by_cases hxy : x = y
    · have hv := HSV.out.symm.trans ((congrArg Sh.v hxy).trans HSV'.out)
      simp only [Value.agg.injEq, Array.mk.injEq, List.cons.injEq, Value.int.injEq, true_and, and_true] at hv
      exact .inl ⟨decide_eq_true hxy, hv⟩
    · refine .inr ⟨decide_eq_false hxy, ?_⟩
      by_cases h1 : a = a'
      · by_cases h2 : b = b'
        · by_cases h3 : c = c'
          · by_cases h4 : d = d'
            · exact absurd (Sh.v_inj (by rw [HSV.out, HSV'.out, h1, h2, h3, h4])) hxy
            · exact .inr (.inr (.inr ⟨h1, h2, h3, h4⟩))
          · exact .inr (.inr (.inl ⟨h1, h2, h3⟩))
        · exact .inr (.inl ⟨h1, h2⟩)
      · exact .inl h1
  clear HSV HSV' HC1 HC2 HC3
  rcases hcase with ⟨hxy, rfl, rfl, rfl, rfl⟩ | ⟨hxy, h | ⟨rfl, h⟩ | ⟨rfl, rfl, h⟩ | ⟨rfl, rfl, rfl, h⟩⟩
  all_goals
    rw [hxy] at n3
    clear hxy
    obtain ⟨k0, k1, l0, l1⟩ := HK.out w5 x5
    go_wp2_with fail
    clear n1 n2 n3 n1'
    refine (vlen_nil w5).mono ?_
    rintro e w6 ⟨rfl, rfl⟩
    go_wp2_with fail
    refine (vlist_nil w5).mono ?_
    rintro e w6 ⟨rfl, rfl⟩
    go_wp2_with fail
    refine (HHN.out w5).mono ?_
    rintro e v6 ⟨rfl, hxv6⟩
    have xv6 := x5.then hxv6
    clear k0 k1 l0 l1
    obtain ⟨k0, k1, l0, l1⟩ := HK.out v6 xv6
    go_wp2_with fail
    refine (HCN.out v6).mono ?_
    rintro e v7 ⟨rfl, hxv7⟩
    have xv7 := xv6.then hxv7
    clear k0 k1 l0 l1
    obtain ⟨k0, k1, l0, l1⟩ := HK.out v7 xv7
    go_wp2_with fail
    refine (HBN.out _ v7 (.inl rfl)).mono ?_
    rintro e v8 ⟨rfl, hxv8⟩
    have xv8 := xv7.then hxv8
    clear k0 k1 l0 l1
    obtain ⟨k0, k1, l0, l1⟩ := HK.out v8 xv8
    go_wp2_with fail
    refine (HPN.out _ v8 (.inl rfl)).mono ?_
    rintro e v9 ⟨rfl, hxv9⟩
    have xv9 := xv8.then hxv9
    clear k0 k1 l0 l1
    obtain ⟨k0, k1, l0, l1⟩ := HK.out v9 xv9
    go_wp2_with fail
    refine (HDN.out _ v9 (.inl rfl)).mono ?_
    rintro e v10 ⟨rfl, hxv10⟩
    have xv10 := xv9.then hxv10
    clear k0 k1 l0 l1
    obtain ⟨k0, k1, l0, l1⟩ := HK.out v10 xv10
    go_wp2_with fail
    refine (HBN.out _ (v10.alloc (.cells #[.pointer none, .map none] 36)) (.inr ⟨v10.heap.size, rfl, alloc_at v10 _⟩)).mono ?_
    rintro e v11 ⟨rfl, hxv11⟩
    have xv11 := (xv10.alloc (.cells #[.pointer none, .map none] 36)).then hxv11
    clear k0 k1 l0 l1
    obtain ⟨k0, k1, l0, l1⟩ := HK.out v11 xv11
    go_wp2_with fail
    refine (HPN.out _ (v11.alloc (.cells #[.pointer none, .map none] 36)) (.inr ⟨v11.heap.size, rfl, alloc_at v11 _⟩)).mono ?_
    rintro e v12 ⟨rfl, hxv12⟩
    have xv12 := (xv11.alloc (.cells #[.pointer none, .map none] 36)).then hxv12
    clear k0 k1 l0 l1
    obtain ⟨k0, k1, l0, l1⟩ := HK.out v12 xv12
    go_wp2_with fail
    refine (HDN.out _ (v12.alloc (.cells #[.pointer none, .map none] 36)) (.inr ⟨v12.heap.size, rfl, alloc_at v12 _⟩)).mono ?_
    rintro e v13 ⟨rfl, hxv13⟩
    have xv13 := (xv12.alloc (.cells #[.pointer none, .map none] 36)).then hxv13
    clear k0 k1 l0 l1
    obtain ⟨k0, k1, l0, l1⟩ := HK.out v13 xv13
    go_wp2_with fail
    refine (awake12_calls v13).mono ?_
    rintro e v14 ⟨rfl, hxv14⟩
    have xv14 := xv13.then hxv14
    clear k0 k1 l0 l1
    obtain ⟨k0, k1, l0, l1⟩ := HK.out v14 xv14
    go_wp2_with fail
    go_ret
    exact ⟨rfl, xW.then xv14⟩
end Go.Proofs.Ytmicclopokpgoaa
