/- Package seal: sums and frames. -/
import Derived.Test.YtmicclopokpgoaaRead
namespace Go.Proofs.Ytmicclopokpgoaa
open Go.RowKit
set_option linter.unusedVariables false
set_option linter.unusedSimpArgs false

/-- One bit of the sum. -/
def crcBit (s : Nat) : Nat := if s % 2 = 1 then s / 2 ^^^ 2197175160 else s / 2
def crcBits : Nat → Nat → Nat
  | 0, s => s
  | k + 1, s => crcBit (crcBits k s)
def crcByte (s : Nat) (c : UInt8) : Nat := crcBits 8 (s ^^^ c.toNat)
def crcRaw (s : Nat) (bs : List UInt8) : Nat := bs.foldl crcByte s
/-- The sum of bytes behind others, whose sum is told. -/
def crcGo (sum : Nat) (bs : List UInt8) : Nat := 4294967295 - crcRaw (4294967295 - sum) bs
def U32 (n : Nat) : Prop := n < 4294967296
theorem crcBit_lt {s : Nat} (h : U32 s) : U32 (crcBit s) := by
  unfold crcBit U32 at *
  split
  · exact Nat.xor_lt_two_pow (n := 32) (by omega) (by decide)
  · omega
theorem crcBits_lt {s : Nat} (h : U32 s) (k : Nat) : U32 (crcBits k s) := by
  induction k with
  | zero => exact h
  | succ k ih => exact crcBit_lt ih
theorem xor_u32 {s : Nat} (h : U32 s) (c : UInt8) : U32 (s ^^^ c.toNat) := by
  have := c.toNat_lt
  exact Nat.xor_lt_two_pow (n := 32) h (by omega)
theorem crcByte_lt {s : Nat} (h : U32 s) (c : UInt8) : U32 (crcByte s c) := crcBits_lt (xor_u32 h c) 8
theorem crcRaw_lt {s : Nat} (h : U32 s) (bs : List UInt8) : U32 (crcRaw s bs) := by
  induction bs generalizing s with
  | nil => exact h
  | cons c bs ih => exact ih (crcByte_lt h c)
theorem crcRaw_snoc (s : Nat) (bs : List UInt8) (c : UInt8) : crcRaw s (bs ++ [c]) = crcByte (crcRaw s bs) c := by simp [crcRaw]
theorem crcGo_lt (s : Nat) (bs : List UInt8) : U32 (crcGo s bs) := by unfold crcGo U32; omega

theorem and_one {s : Nat} (h : U32 s) : bits BinOp.and IntKind.u32 (s : Int) 1 = ((s % 2 : Nat) : Int) := by
  have := u32_and_nat s 1 h (by decide)
  rw [Nat.and_one_is_mod] at this
  exact this
theorem xor_poly {s : Nat} (h : U32 s) : bits BinOp.xor IntKind.u32 ((s : Int) / 2) 2197175160 = ((s / 2 ^^^ 2197175160 : Nat) : Int) := by
  have := u32_xor_nat (s / 2) 2197175160 (by unfold U32 at h; omega) (by decide)
  exact this

theorem not_u32 {s : Nat} (h : U32 s) : bits BinOp.xor IntKind.u32 IntKind.u32.max (s : Int) = ((4294967295 - s : Nat) : Int) := by
  have e := u32_xor_nat 4294967295 s (by decide) h
  have e2 : 4294967295 ^^^ s = 4294967295 - s := by
    unfold U32 at h
    have e3 : 4294967295 - s = 2 ^ 32 - (s + 1) := by omega
    have e4 : (4294967295 : Nat) = 2 ^ 32 - (0 + 1) := by decide
    apply Nat.eq_of_testBit_eq
    intro i
    rw [e3, Nat.testBit_xor, Nat.testBit_two_pow_sub_succ (x := s) (n := 32) (by omega)]
    rw [e4, Nat.testBit_two_pow_sub_succ (x := 0) (n := 32) (by decide)]
    by_cases hi : i < 32
    · simp [hi]
    · have : s.testBit i = false := by
        have h' : s < 2 ^ 32 := h
        exact Nat.testBit_lt_two_pow (Nat.lt_of_lt_of_le h' (Nat.pow_le_pow_right (by decide) (by omega)))
      simp [hi, this]
  rw [e2] at e
  exact e

set_option maxRecDepth 100000 in
set_option maxHeartbeats 400000 in
theorem go_calls (sum : Nat) (vb : Value) (bs : List UInt8) (F : Foot) (w : World) (hs : U32 sum) (hb : BytesAt w F vb bs) (hlen : bs.length ≤ 1073741824) :
    Calls Try.prog 120 #[.int .u32 sum, vb] w fun e w' => e = .returned (.int .u32 (crcGo sum bs)) ∧ w = w' := by
  obtain ⟨A, c, rfl, _, _, _, hseg⟩ := hb.open
  clear hb
  have hr0 : U32 (4294967295 - sum) := by unfold U32; omega
  have hn := not_u32 hs
  have hcg : crcGo sum bs = 4294967295 - crcRaw (4294967295 - sum) bs := rfl
  rw [hcg]
  clear hcg
  generalize hX : 4294967295 - sum = X at *
  clear hX
  go_enter Try.func120, Try.ntmps120
  go_wp2
  clear hn
  go_loop [5, 12] (fun m i => ∃ j : Nat, j ≤ bs.length ∧ i = .int .i64 j ∧ m = .int .u32 (crcRaw X (bs.take j))) (fun _ i => bs.length - (intOf i).toNat)
  case atStart => exact ⟨0, Nat.zero_le _, rfl, by simp [crcRaw]⟩
  case round =>
    obtain ⟨j, hj, rfl, rfl⟩ := hrel
    have hcr := crcRaw_lt hr0 (bs.take j)
    by_cases hlt : j < bs.length
    · obtain ⟨b, o, rfl, _, _, hcl⟩ := hseg.form (by rw [bytesV_length]; exact hlt)
      have hcell := hcl j (by rw [bytesV_length]; exact hlt)
      rw [bytesV_get _ _ hlt] at hcell
      have hx8 : (bs[j]'hlt).toNat < 256 := (bs[j]'hlt).toNat_lt
      have hs1 : crcRaw X (bs.take (j + 1)) = crcBits 8 (crcRaw X (bs.take j) ^^^ (bs[j]'hlt).toNat) := by
        rw [List.take_succ_eq_append_getElem hlt, crcRaw_snoc]; rfl
      have hxu := xor_u32 hcr (bs[j]'hlt)
      generalize crcRaw X (bs.take j) = r at *
      have hxr : bits BinOp.xor IntKind.u32 (r : Int) (((bs[j]'hlt).toNat : Nat) : Int) = ((r ^^^ (bs[j]'hlt).toNat : Nat) : Int) := u32_xor_nat _ _ hcr (by omega)
      generalize (bs[j]'hlt).toNat = x at *
      generalize r ^^^ x = y at *
      have HS := Lib.hid hs1
      clear hs1 hcl
      go_wp2
      go_loop [5, 20] (fun m i => ∃ k : Nat, k ≤ 8 ∧ i = .int .i64 k ∧ m = .int .u32 (crcBits k y)) (fun _ i => 8 - (intOf i).toNat)
      case atStart => exact ⟨0, by omega, rfl, rfl⟩
      case round =>
        obtain ⟨k, hk, rfl, rfl⟩ := hrel
        have hcb := crcBits_lt hxu k
        have hsb : crcBits (k + 1) y = crcBit (crcBits k y) := rfl
        generalize hz0 : crcBits k y = z at *
        have HZ := Lib.hid hz0
        clear hz0
        have ha := and_one hcb
        have hp := xor_poly hcb
        have HB := Lib.hid hsb
        clear hsb
        by_cases hk8 : k < 8
        · by_cases ho : z % 2 = 1
          · have hz : (((z % 2 : Nat) : Int) == 1) = true := by rw [ho]; rfl
            go_wp2
            refine ⟨⟨k + 1, by omega, by go_num, by rw [HB.out, crcBit, if_pos ho]⟩, by simp [intOf]; omega⟩
          · have hz : (((z % 2 : Nat) : Int) == 1) = false := by
              have : z % 2 = 0 := by omega
              rw [this]; rfl
            go_wp2
            refine ⟨⟨k + 1, by omega, by go_num, by rw [HB.out, crcBit, if_neg ho]; rfl⟩, by simp [intOf]; omega⟩
        · obtain rfl : k = 8 := by omega
          go_wp2
          refine ⟨⟨j + 1, by omega, by go_num, by rw [HS.out, HZ.out]⟩, by simp [intOf]; omega⟩
    · have hn := not_u32 hcr
      go_wp2
      go_ret
      obtain rfl : j = bs.length := by omega
      rw [List.take_length]
      exact ⟨rfl, rfl⟩
set_option maxRecDepth 100000 in
theorem sum_calls (vb : Value) (bs : List UInt8) (F : Foot) (w : World) (hb : BytesAt w F vb bs) (hlen : bs.length ≤ 1073741824) :
    Calls Try.prog 121 #[vb] w fun e w' => e = .returned (.int .u32 (crcGo 0 bs)) ∧ w = w' := by
  have hg := go_calls 0 vb bs F w (by unfold U32; omega) hb hlen
  obtain ⟨A, c, rfl, _⟩ := hb.open
  have HG := Lib.hid hg
  clear hg
  go_enter Try.func121, Try.ntmps121
  go_wp2_with fail
  refine HG.out.mono ?_
  rintro e w1 ⟨rfl, rfl⟩
  go_wp2
  go_ret
  exact ⟨rfl, rfl⟩

/-- A frame's head: the mark, the kind, how many bytes it bears. -/
def headOf (kind : Nat) (n : Nat) : List UInt8 := le 2 53021 ++ le 2 kind ++ le 4 n
/-- A frame. -/
def frameOf (kind : Nat) (b : List UInt8) : List UInt8 := headOf kind b.length ++ le 4 (crcGo (crcGo 0 (headOf kind b.length)) b) ++ b
theorem headOf_length (kind n : Nat) : (headOf kind n).length = 8 := by simp [headOf, le_length]
theorem frameOf_length (kind : Nat) (b : List UInt8) : (frameOf kind b).length = 12 + b.length := by simp [frameOf, headOf_length, le_length]; omega

set_option maxRecDepth 100000 in
set_option maxHeartbeats 800000 in
theorem frame_calls (kind : Nat) (vb : Value) (bs : List UInt8) (F T : Foot) (w : World) (hT : Young T w) (hk : kind < 65536) (hb : BytesAt w F vb bs) (hlen : bs.length ≤ 65536) :
    Calls Try.prog 99 #[.int .u16 kind, vb] w fun e w' => ∃ A c, e = .returned (.slice A (12 + bs.length) c) ∧ OwnAt w' T 5 1 (.slice A (12 + bs.length) c) (12 + bs.length) (bytesV (frameOf kind bs)) ∧ Ext noFoot w w' := by
  have hb1 := hb.under
  obtain ⟨A, c, rfl, _⟩ := hb.open
  have hw0 : WriterAt (w.alloc (.cells #[.slice none 0 0] 179)) (young w) w.heap.size [] := ⟨Nat.le_refl _, _, alloc_at _ _, OwnAt.nil _ _ _ _⟩
  have hbA : BytesAt (w.alloc (.cells #[.slice none 0 0] 179)) (under w.heap.size) (.slice A bs.length c) bs := hb1.later ((Ext.refl _ _).alloc _)
  have hy0 : Young (young w) (w.alloc (.cells #[.slice none 0 0] 179)) := Young.alloc (fun _ h => h) _
  have xA : Ext (young w) w (w.alloc (.cells #[.slice none 0 0] 179)) := (Ext.refl _ _).alloc _
  go_enter Try.func99, Try.ntmps99
  have hz : ∀ wx, Ext (young w) (w.alloc (.cells #[.slice none 0 0] 179)) wx → BytesAt wx (under w.heap.size) (.slice A bs.length c) bs := fun wx x =>
    hbA.keep x (fun b _ hu hy => absurd hu (by unfold young at hy; unfold under; omega)) (fun _ _ h => h)
  have u1 : U64 53021 := by unfold U64; omega
  have u2 : U64 kind := by unfold U64; omega
  have u3 : U64 bs.length := by unfold U64; omega
  have u4 : ∀ a b, U64 (crcGo a b) := fun a b => by have := crcGo_lt a b; unfold U64; unfold U32 at this; omega
  have k32 : ∀ a b, crcGo a b < 4294967296 := crcGo_lt
  have HU := Lib.hid u4
  clear u4
  go_wp2_with fail
  refine (num_calls 53021 2 _ _ [] _ u1 (by decide) (by decide) hy0 hw0 (by simp)).mono ?_
  rintro e w1 ⟨rfl, hw1, hx1⟩
  go_wp2_with fail
  refine (num_calls kind 2 _ _ _ _ u2 (by decide) (by decide) (hy0.later hx1) hw1 (by simp [le_length])).mono ?_
  rintro e w2 ⟨rfl, hw2, hx2⟩
  go_wp2_with fail
  refine (num_calls bs.length 4 _ _ _ _ u3 (by decide) (by decide) ((hy0.later hx1).later hx2) hw2 (by simp [le_length])).mono ?_
  rintro e w3 ⟨rfl, hw3, hx3⟩
  have e3 : [] ++ le (Int.toNat 2) 53021 ++ le (Int.toNat 2) kind ++ le (Int.toNat 4) bs.length = headOf kind bs.length := rfl
  rw [e3] at hw3
  clear e3 hw1 hw2 hw0
  have x13 := (hx1.trans hx2 (fun _ _ h => h)).trans hx3 (fun _ _ h => h)
  have y3 := hy0.later x13
  go_wp2_with fail
  refine (wbytes_calls _ (young w3) _ _ _ (fun _ h => h) hw3 (by rw [headOf_length]; omega)).mono ?_
  rintro e w4 ⟨A4, c4, rfl, ho4, hx4⟩
  have hhl := headOf_length kind bs.length
  have hb4 := BytesAt.ofOwnAt ho4
  have hw4 := hw3.ext hx4 (fun _ _ _ h => h)
  have HF := Lib.hid (show frameOf kind bs = headOf kind bs.length ++ le (Int.toNat 4) (crcGo (crcGo 0 (headOf kind bs.length)) bs) ++ bs from rfl)
  generalize headOf kind bs.length = hd at *
  have HL := Lib.hid hhl
  clear hhl
  go_wp2_with fail
  refine (sum_calls _ hd _ _ hb4 (by rw [HL.out]; omega)).mono ?_
  rintro e w5 ⟨rfl, rfl⟩
  have x14 := x13.then hx4
  have hz4 := hz _ x14
  go_wp2_with fail
  refine (go_calls _ _ bs _ _ (crcGo_lt _ _) hz4 (by omega)).mono ?_
  rintro e w5 ⟨rfl, rfl⟩
  have k33 := k32 (crcGo 0 hd) bs
  have hU := HU.out (crcGo 0 hd) bs
  generalize crcGo (crcGo 0 hd) bs = s at *
  clear k32 HU
  go_wp2_with fail
  refine (num_calls s 4 _ _ _ _ hU (by decide) (by decide) (y3.later hx4) hw4 (by rw [HL.out]; omega)).mono ?_
  rintro e w5 ⟨rfl, hw5, hx5⟩
  have x15 := x14.trans hx5 (fun _ _ h => h)
  go_wp2_with fail
  refine (wraw_calls _ bs _ _ _ _ _ (hz _ x15) (hy0.later x15) hw5 (by simp [le_length, HL.out]) (by omega)).mono ?_
  rintro e w6 ⟨rfl, hw6, hx6⟩
  have x16 := x15.trans hx6 (fun _ _ h => h)
  rw [← HF.out] at hw6
  have hfl := frameOf_length kind bs
  generalize hfr : frameOf kind bs = fr at *
  have HFR := Lib.hid hfr
  clear hfr
  have HFL := Lib.hid hfl
  clear hfl
  have x06 : Ext (young w) w w6 := xA.trans x16 (fun _ _ h => h)
  go_wp2_with fail
  refine (wbytes_calls _ T _ _ _ (hT.later x06) hw6 (by rw [HFL.out]; omega)).mono ?_
  rintro e w7 ⟨A7, c7, rfl, ho7, hx7⟩
  go_wp2
  go_ret
  have hl := HFL.out
  rw [hl] at ho7
  exact ⟨A7, c7, by simp [hl], by rw [HFR.out]; exact ho7, (x06.then hx7).mono (fun b hb hy => absurd hy (by unfold young; omega))⟩
/-- What stands in bytes: the kind, the load, how many bytes the frame has, and an error's number. -/
def openOf (b : List UInt8) : Nat × List UInt8 × Nat × Nat :=
  if b.length < 12 ∨ rdv 2 b ≠ 53021 ∨ 65536 < rdv 4 (b.drop 4) ∨ b.length - 12 < rdv 4 (b.drop 4) then (0, [], 0, 21)
  else if crcGo (crcGo 0 (b.take 8)) ((b.drop 12).take (rdv 4 (b.drop 4))) ≠ rdv 4 (b.drop 8) then (0, [], 0, 22)
  else (rdv 2 (b.drop 2), (b.drop 12).take (rdv 4 (b.drop 4)), 12 + rdv 4 (b.drop 4), 0)

/-- What Open answers. -/
def Opens (w : World) (T : Foot) (r : Nat × List UInt8 × Nat × Nat) (e : Ending) (w' : World) : Prop :=
  ∃ A c, e = .returned (.tuple #[.int .u16 r.1, .slice A r.2.1.length c, .int .i64 r.2.2.1, .int .i64 r.2.2.2]) ∧ OwnAt w' T 5 1 (.slice A r.2.1.length c) r.2.1.length (bytesV r.2.1) ∧ Ext noFoot w w'

set_option maxRecDepth 100000 in
set_option maxHeartbeats 800000 in
theorem open_calls (vb : Value) (b : List UInt8) (F T : Foot) (w : World) (hT : Young T w) (hb : BytesAt w F vb b) (hlen : b.length ≤ 1073741824) :
    Calls Try.prog 90 #[vb] w (Opens w T (openOf b)) := by
  have hb1 := hb.under
  have hr := read_calls vb b F w hb
  have b1 : rdv 2 b < 65536 := rdv_lt 2 _
  have b2 : rdv 2 (b.drop 2) < 65536 := rdv_lt 2 _
  have b3 : rdv 4 (b.drop 4) < 4294967296 := rdv_lt 4 _
  have b4 : rdv 4 (b.drop 8) < 4294967296 := rdv_lt 4 _
  have hl1 : (b.drop 2).length ≤ 1073741824 := by simp; omega
  have hl2 : (b.drop 4).length ≤ 1073741824 := by simp; omega
  have hl3 : (b.drop 8).length ≤ 1073741824 := by simp; omega
  have e12 : ((((false || decide (b.length < 2)) || decide ((b.drop 2).length < 2)) || decide ((b.drop 4).length < 4)) || decide ((b.drop 8).length < 4)) = decide (b.length < 12) := by
    simp only [List.length_drop]
    by_cases h : b.length < 12
    · simp [h]; omega
    · simp [h]; omega
  have d4 : (b.drop 2).drop 2 = b.drop 4 := by simp
  have d8 : (b.drop 4).drop 4 = b.drop 8 := by simp
  have d12 : (b.drop 8).drop 4 = b.drop 12 := by simp
  have r1 := fun wx (h : ReaderAt wx w.heap.size w.heap.size b false) => rnum_any 2 _ _ b _ wx h (by decide) (by decide) hlen
  have r2 := fun t wx (h : ReaderAt wx w.heap.size w.heap.size (b.drop 2) t) => rnum_any 2 _ _ (b.drop 2) t wx h (by decide) (by decide) hl1
  have r3 := fun t wx (h : ReaderAt wx w.heap.size w.heap.size (b.drop 4) t) => rnum_any 4 _ _ (b.drop 4) t wx h (by decide) (by decide) hl2
  have r4 := fun t wx (h : ReaderAt wx w.heap.size w.heap.size (b.drop 8) t) => rnum_any 4 _ _ (b.drop 8) t wx h (by decide) (by decide) hl3
  simp only [show Int.toNat 4 = 4 from rfl, show Int.toNat 2 = 2 from rfl, d4, d8, d12] at r1 r2 r3 r4
  obtain ⟨A, c, rfl, hc1, hc2, _⟩ := hb.open
  unfold maxLen at hc2
  have ho : openOf b = if b.length < 12 ∨ rdv 2 b ≠ 53021 ∨ 65536 < rdv 4 (b.drop 4) ∨ b.length - 12 < rdv 4 (b.drop 4) then (0, [], 0, 21)
    else if crcGo (crcGo 0 (b.take 8)) ((b.drop 12).take (rdv 4 (b.drop 4))) ≠ rdv 4 (b.drop 8) then (0, [], 0, 22)
    else (rdv 2 (b.drop 2), (b.drop 12).take (rdv 4 (b.drop 4)), 12 + rdv 4 (b.drop 4), 0) := rfl
  generalize rdv 2 b = m at *
  generalize rdv 2 (b.drop 2) = k at *
  generalize rdv 4 (b.drop 4) = n at *
  generalize rdv 4 (b.drop 8) = s at *
  generalize openOf b = res at *
  have R0 := Lib.hid hr
  have R1 := Lib.hid r1
  have R2 := Lib.hid r2
  have R3 := Lib.hid r3
  have R4 := Lib.hid r4
  have E12 := Lib.hid e12
  have HO := Lib.hid ho
  clear hr r1 r2 r3 r4 e12 ho d4 d8 d12 hl1 hl2 hl3
  go_enter Try.func90, Try.ntmps90
  go_wp2_with fail
  refine R0.out.mono ?_
  rintro e w0 ⟨rfl, hw0, hx0⟩
  go_wp2_with fail
  refine (R1.out _ hw0).mono ?_
  rintro e w1 ⟨rfl, hw1, hx1⟩
  go_wp2_with fail
  refine (R2.out _ _ hw1).mono ?_
  rintro e w2 ⟨rfl, hw2, hx2⟩
  go_wp2_with fail
  refine (R3.out _ _ hw2).mono ?_
  rintro e w3 ⟨rfl, hw3, hx3⟩
  go_wp2_with fail
  refine (R4.out _ _ hw3).mono ?_
  rintro e w4 ⟨rfl, hw4, hx4⟩
  rw [E12.out] at hw4
  have x4 : Ext (one w.heap.size) w w4 := (((Ext.after hx0 hx1).trans hx2 (fun _ _ h => h)).trans hx3 (fun _ _ h => h)).trans hx4 (fun _ _ h => h)
  have x4' : Ext noFoot w w4 := x4.mono (fun x hx (e : x = w.heap.size) => by omega)
  clear hx0 hx1 hx2 hx3 hx4 hw0 hw1 hw2 hw3 R0 R1 R2 R3 R4 E12
  have ht := torn_calls _ _ _ _ _ hw4
  have hlf := left_calls _ _ _ _ _ hw4
  rw [List.length_drop] at hlf
  have HT := Lib.hid ht
  have HLF := Lib.hid hlf
  clear ht hlf
  by_cases q1 : b.length < 12
  · have HR := HO.out
    rw [if_pos (.inl q1)] at HR
    subst HR
    rw [decide_eq_true q1] at HT
    go_wp2_with fail
    refine HT.out.mono ?_
    rintro e w5 ⟨rfl, rfl⟩
    go_wp2_with fail
    refine bodyPost_ret (results_tmp4 rfl _ _ _) rfl ?_
    exact ⟨none, 0, rfl, OwnAt.nil _ _ _ _, x4'⟩
  · rw [decide_eq_false q1] at HT
    by_cases q2 : m = 53021
    · subst q2
      by_cases q3 : 65536 < n
      · have HR := HO.out
        rw [if_pos (.inr (.inr (.inl q3)))] at HR
        subst HR
        go_wp2_with fail
        refine HT.out.mono ?_
        rintro e w5 ⟨rfl, rfl⟩
        go_wp2_with fail
        refine bodyPost_ret (results_tmp4 rfl _ _ _) rfl ?_
        exact ⟨none, 0, rfl, OwnAt.nil _ _ _ _, x4'⟩
      · by_cases q4 : b.length - 12 < n
        · have HR := HO.out
          rw [if_pos (.inr (.inr (.inr q4)))] at HR
          subst HR
          go_wp2_with fail
          refine HT.out.mono ?_
          rintro e w5 ⟨rfl, rfl⟩
          go_wp2_with fail
          refine HLF.out.mono ?_
          rintro e w5 ⟨rfl, rfl⟩
          go_wp2_with fail
          refine bodyPost_ret (results_tmp4 rfl _ _ _) rfl ?_
          exact ⟨none, 0, rfl, OwnAt.nil _ _ _ _, x4'⟩
        · have HR := HO.out
          rw [if_neg (by omega)] at HR
          have hd12 : (b.drop 12).length = b.length - 12 := List.length_drop
          have hrw := rraw_ok n T _ _ _ _ _ (hT.later x4) hw4 (by omega) (by omega)
          have htl : ((b.drop 12).take n).length = n := by rw [List.length_take]; omega
          have h8 : BytesAt w4 (under w.heap.size) (.slice A 8 c) (b.take 8) := (hb1.head 8 (by omega)).later x4'
          generalize (b.drop 12).take n = load at *
          have HRW := Lib.hid hrw
          have HHR := Lib.hid HR
          have HTL := Lib.hid htl
          clear hrw HR hd12 HO htl
          go_wp2_with fail
          refine HT.out.mono ?_
          rintro e w5 ⟨rfl, rfl⟩
          go_wp2_with fail
          refine HLF.out.mono ?_
          rintro e w5 ⟨rfl, rfl⟩
          go_wp2_with fail
          refine HRW.out.mono ?_
          rintro e w5 ⟨A5, c5, rfl, ho5, hw5, hx5⟩
          have h8' := h8.keep hx5 (F' := fun _ => True) (fun x _ hu (e : x = w.heap.size) => absurd hu (by unfold under; omega)) (fun _ _ _ => trivial)
          have x5 : Ext noFoot w w5 := (x4.trans hx5 (fun _ _ h => h)).mono (fun x hx (e : x = w.heap.size) => by omega)
          go_wp2_with fail
          refine (sum_calls _ _ _ _ h8' (by simp; omega)).mono ?_
          rintro e w6 ⟨rfl, rfl⟩
          have hlb := BytesAt.ofOwnAt (ho5.bytes rfl)
          have hll : load.length ≤ 1073741824 := by rw [HTL.out]; omega
          have hcl := crcGo_lt 0 (b.take 8)
          generalize crcGo 0 (b.take 8) = X at *
          go_wp2_with fail
          refine (go_calls X _ load _ _ hcl hlb hll).mono ?_
          rintro e w6 ⟨rfl, rfl⟩
          generalize crcGo X load = y at *
          clear hlb hll hcl h8 h8' x4 x4' hw5 hw4
          by_cases q5 : y = s
          · subst q5
            have HR := HHR.out
            rw [if_neg (fun h => h rfl)] at HR
            subst HR
            go_wp2_with fail
            refine bodyPost_ret (results_tmp4 rfl _ _ _) rfl ?_
            refine ⟨A5, c5, by simp [HTL.out], ?_, x5⟩
            show OwnAt w5 T _ _ (.slice A5 load.length c5) load.length (bytesV load)
            rw [HTL.out]; exact ho5
          · have HR := HHR.out
            rw [if_pos q5] at HR
            subst HR
            have z1 : ((y : Int) == (s : Int)) = false := by simp; omega
            have z2 : ((y : Int) != (s : Int)) = true := by simp; omega
            go_wp2_with fail
            refine bodyPost_ret (results_tmp4 rfl _ _ _) rfl ?_
            exact ⟨none, 0, rfl, OwnAt.nil _ _ _ _, x5⟩
    · have HR := HO.out
      rw [if_pos (.inr (.inl q2))] at HR
      subst HR
      have z1 : ((m : Int) == 53021) = false := by simp; omega
      have z2 : ((m : Int) != 53021) = true := by simp; omega
      go_wp2_with fail
      refine HT.out.mono ?_
      rintro e w5 ⟨rfl, rfl⟩
      go_wp2_with fail
      refine bodyPost_ret (results_tmp4 rfl _ _ _) rfl ?_
      exact ⟨none, 0, rfl, OwnAt.nil _ _ _ _, x4'⟩
end Go.Proofs.Ytmicclopokpgoaa
