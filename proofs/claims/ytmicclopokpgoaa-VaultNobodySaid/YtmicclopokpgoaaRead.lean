/- Package pack: what its reader does. -/
import Derived.Test.YtmicclopokpgoaaPack
import Derived.Laws.BitsAllLaws
namespace Go.Proofs.Ytmicclopokpgoaa
open Go.RowKit
set_option linter.unusedVariables false
set_option linter.unusedSimpArgs false

/-- The blocks below n0. -/
def under (n0 : Nat) : Foot := fun b => b < n0
/-- A reader at block p, over bytes that lie below block n0. -/
def ReaderAt (w : World) (n0 p : Nat) (bs : List UInt8) (torn : Bool) : Prop :=
  n0 ≤ p ∧ ∃ v, w.heap[p]? = some (.cells #[v, .bool torn] 208 (0, 0)) ∧ BytesAt w (under n0) v bs
theorem ReaderAt.ext {w w' : World} {T : Foot} {n0 p : Nat} {bs : List UInt8} {torn : Bool} (h : ReaderAt w n0 p bs torn) (x : Ext T w w') (hp : ¬ T p) (hT : ∀ b, b < n0 → ¬ T b) : ReaderAt w' n0 p bs torn := by
  obtain ⟨h1, v, h2, h3⟩ := h
  exact ⟨h1, v, x.block h2 hp, h3.keep x (fun b _ hb => hT b hb) (fun _ _ h => h)⟩
theorem BytesAt.under {w : World} {F : Foot} {v : Value} {bs : List UInt8} (h : BytesAt w F v bs) : BytesAt w (under w.heap.size) v bs := h.keep (S := noFoot) (Ext.refl _ _) (fun _ _ _ h => h) (fun b hb _ => hb)

set_option maxRecDepth 100000 in
theorem read_calls (vb : Value) (bs : List UInt8) (F : Foot) (w : World) (hb : BytesAt w F vb bs) :
    Calls Try.prog 91 #[vb] w fun e w' =>
      e = .returned (.pointer (some ⟨w.heap.size, 0, none⟩)) ∧ ReaderAt w' w.heap.size w.heap.size bs false ∧ Ext noFoot w w' := by
  have hb' := hb.under
  obtain ⟨A, c, rfl, _⟩ := hb.open
  go_enter Try.func91, Try.ntmps91
  go_wp2
  go_ret
  exact ⟨rfl, ⟨Nat.le_refl _, _, alloc_at _ _, hb'.later ((Ext.refl _ _).alloc _)⟩, (Ext.refl _ _).alloc _⟩

set_option maxRecDepth 100000 in
theorem rraw_torn (n : Int) (n0 p : Nat) (bs : List UInt8) (torn : Bool) (w : World) (hw : ReaderAt w n0 p bs torn) (hn : n < 0 ∨ (bs.length : Int) < n) :
    Calls Try.prog 119 #[.pointer (some ⟨p, 0, none⟩), .int .i64 n] w fun e w' =>
      e = .returned (.slice none 0 0) ∧ ReaderAt w' n0 p [] true ∧ Ext (one p) w w' := by
  obtain ⟨hpn, v, hp, hb⟩ := hw
  obtain ⟨A, c, rfl, hc1, hc2, hc0, hseg⟩ := hb.open
  have hc := cells_of hp
  have hf := free_of hp
  have hpl := lt_of hp
  by_cases hneg : n < 0
  all_goals
    go_enter Try.func119, Try.ntmps119
    go_wp2
    go_ret
    refine ⟨rfl, ⟨hpn, .slice none 0 0, ?_, BytesAt.nil _ _⟩, ((Ext.refl (one p) w).setCell ⟨p, 1, none⟩ _ (fun _ => rfl)).setCell ⟨p, 0, none⟩ _ (fun _ => rfl)⟩
    rw [set_of (set_of hp _ _)]; rfl

set_option maxRecDepth 100000 in
theorem rraw_ok (n : Nat) (T : Foot) (n0 p : Nat) (bs : List UInt8) (torn : Bool) (w : World) (hT : Young T w) (hw : ReaderAt w n0 p bs torn) (hn : n ≤ bs.length) (hlen : bs.length ≤ 1073741824) :
    Calls Try.prog 119 #[.pointer (some ⟨p, 0, none⟩), .int .i64 n] w fun e w' =>
      ∃ A c, e = .returned (.slice A n c) ∧ OwnAt w' T 5 1 (.slice A n c) n (bytesV (bs.take n)) ∧ ReaderAt w' n0 p (bs.drop n) torn ∧ Ext (one p) w w' := by
  obtain ⟨hpn, v, hp, hb⟩ := hw
  obtain ⟨A, c, rfl, hc1, hc2, hc0, hseg⟩ := hb.open
  unfold maxLen at hc2
  have hc := cells_of hp
  have hf := free_of hp
  have hpl := lt_of hp
  have hemp := OwnAt.lit w (young w) 5 1 0 #[] rfl (Nat.zero_le _) (fun _ h => h)
  have hcut := (hb.head n hn).later (F := under n0) ((Ext.refl _ _).alloc (.cells #[] 5))
  have hcut' : SlAt (w.alloc (.cells #[] 5)) (under n0) (.slice A n c) n 1 (bytesV (bs.take n)) := by
    have h := hcut
    unfold BytesAt at h
    rwa [List.length_take, Nat.min_eq_left hn] at h
  go_enter Try.func119, Try.ntmps119
  go_wp2_with (at_builtin; refine wpList_app E8 rfl _ _ rfl rfl hemp rfl hcut' (Young.alloc (fun _ h => h) _) ?_ ?c1; intro A1 c1 w1 hown1 hg1; have hp1 := grown_block hg1 (alloc_block _ hp) (hemp.ne (alloc_block _ hp) rfl); have hc1 := cells_of hp1; have hf1 := free_of hp1)
  case c1 => exact AppSide.bytes rfl (by omega) (by omega)
  all_goals
    have hne := hown1.ne hp1 rfl
    go_ret
    rw [Nat.zero_add] at hown1
    have x1 : Ext noFoot w w1 := ((Ext.refl _ _).alloc _).grown hg1 (fun k hk hlt => absurd (hemp.2 k hk) (by unfold young; omega))
    have x2 : Ext (one p) w (w1.setCell ⟨p, 0, none⟩ (sliced A n bs.length c 1)) := ((Ext.refl _ _).then x1).setCell _ _ (fun _ => rfl)
    have hd := hb.cut n bs.length hn (Nat.le_refl _)
    rw [List.take_length] at hd
    have hd' := hd.keep x2 (fun b hb' hu (e : b = p) => absurd hu (by unfold under; omega)) (fun _ _ h => h)
    first
      | (refine ⟨A1, c1, rfl, ⟨own_setCell hown1.1 ⟨p, 0, none⟩ (.slice A (bs.length - n) 0) (by simpa using hne), fun g hg => hT g (hown1.2 g hg)⟩, ⟨hpn, _, by rw [set_of hp1]; rfl, ?_⟩, ?_⟩
         · simpa [sliced] using hd'
         · simpa [sliced] using x2)
      | (refine ⟨A1, c1, rfl, ⟨own_setCell hown1.1 ⟨p, 0, none⟩ _ (by simpa using hne), fun g hg => hT g (hown1.2 g hg)⟩, ⟨hpn, _, by rw [set_of hp1]; rfl, ?_⟩, ?_⟩
         · simpa [sliced, *] using hd'
         · simpa [sliced, *] using x2)
set_option maxRecDepth 100000 in
theorem left_calls (n0 p : Nat) (bs : List UInt8) (torn : Bool) (w : World) (hw : ReaderAt w n0 p bs torn) :
    Calls Try.prog 118 #[.pointer (some ⟨p, 0, none⟩)] w fun e w' => e = .returned (.int .i64 bs.length) ∧ w = w' := by
  obtain ⟨hpn, v, hp, hb⟩ := hw
  obtain ⟨A, c, rfl, _⟩ := hb.open
  have hc := cells_of hp
  go_enter Try.func118, Try.ntmps118
  go_wp2
  go_ret
  exact ⟨rfl, rfl⟩

set_option maxRecDepth 100000 in
theorem torn_calls (n0 p : Nat) (bs : List UInt8) (torn : Bool) (w : World) (hw : ReaderAt w n0 p bs torn) :
    Calls Try.prog 115 #[.pointer (some ⟨p, 0, none⟩)] w fun e w' => e = .returned (.bool torn) ∧ w = w' := by
  obtain ⟨hpn, v, hp, hb⟩ := hw
  obtain ⟨A, c, rfl, _⟩ := hb.open
  have hc := cells_of hp
  go_enter Try.func115, Try.ntmps115
  go_wp2
  go_ret
  exact ⟨rfl, rfl⟩

/-- The number of bytes, the least first. -/
def unle : List UInt8 → Nat
  | [] => 0
  | x :: l => x.toNat + 256 * unle l
theorem unle_snoc (l : List UInt8) (x : UInt8) : unle (l ++ [x]) = unle l + x.toNat * 256 ^ l.length := by
  induction l with
  | nil => simp [unle]
  | cons y l ih => simp only [List.cons_append, unle, ih, List.length_cons, Nat.pow_succ, Nat.mul_add]; rw [Nat.add_assoc]; congr 2; rw [Nat.mul_comm 256, Nat.mul_assoc]
theorem unle_lt (l : List UInt8) : unle l < 256 ^ l.length := by
  induction l with
  | nil => simp [unle]
  | cons y l ih =>
    have := y.toNat_lt
    simp only [unle, List.length_cons, Nat.pow_succ]
    omega

theorem or_shift (m x j : Nat) (hm : m < 256 ^ j) (hx : x < 256) (hj : j < 8) :
    bits BinOp.or IntKind.u64 (m : Int) (IntKind.u64.wrap ((x : Int) * 2 ^ (8 * j))) = ((m + x * 256 ^ j : Nat) : Int) := by
  have e : (256 : Nat) ^ j = 2 ^ (8 * j) := by rw [Nat.pow_mul]
  rw [e] at hm ⊢
  have h1 : 2 ^ (8 * j) * 256 ≤ 18446744073709551616 := by
    have : 2 ^ (8 * j) * 256 = 2 ^ (8 * j + 8) := by rw [Nat.pow_add]
    rw [this]
    exact Nat.le_trans (Nat.pow_le_pow_right (by decide) (by omega : 8 * j + 8 ≤ 64)) (by decide)
  have h2 : x * 2 ^ (8 * j) < 18446744073709551616 := Nat.lt_of_lt_of_le ((Nat.mul_lt_mul_right (Nat.two_pow_pos _)).2 hx) (by rw [Nat.mul_comm]; exact h1)
  have h3 : ((x : Int) * 2 ^ (8 * j)) = ((x * 2 ^ (8 * j) : Nat) : Int) := by simp
  rw [h3, IntWalk.u64_in _ (by omega), u64_or_nat _ _ (by omega) h2]
  congr 1
  rw [Nat.or_comm, ← Nat.shiftLeft_eq, ← Nat.shiftLeft_add_eq_or_of_lt hm, Nat.add_comm]

/-- What a take of bytes comes to. -/
def Took (w : World) (n0 p : Nat) (l bs' : List UInt8) (torn' : Bool) (e : Ending) (w' : World) : Prop :=
  ∃ A c, e = .returned (.slice A l.length c) ∧ SegAt w' (fun _ => True) A (bytesV l) ∧ ReaderAt w' n0 p bs' torn' ∧ Ext (one p) w w'

set_option maxRecDepth 100000 in
set_option maxHeartbeats 400000 in
theorem rnum_gen (l bs' : List UInt8) (torn' : Bool) (n : Int) (n0 p : Nat) (w : World) (h8 : n ≤ 8) (hl : l.length ≤ 8)
    (hr : Calls Try.prog 119 #[.pointer (some ⟨p, 0, none⟩), .int .i64 n] w (Took w n0 p l bs' torn')) :
    Calls Try.prog 114 #[.pointer (some ⟨p, 0, none⟩), .int .i64 n] w fun e w' =>
      e = .returned (.int .u64 (unle l)) ∧ ReaderAt w' n0 p bs' torn' ∧ Ext (one p) w w' := by
  have HR := Lib.hid hr
  clear hr
  go_enter Try.func114, Try.ntmps114
  go_wp2_with fail
  refine HR.out.mono ?_
  rintro e w1 ⟨A, c, rfl, hseg, hrd, hx⟩
  go_wp2
  go_loop [5, 14] (fun m i => ∃ j : Nat, j ≤ l.length ∧ i = .int .i64 j ∧ m = .int .u64 (unle (l.take j))) (fun _ i => l.length - (intOf i).toNat)
  case atStart => exact ⟨0, Nat.zero_le _, rfl, by simp [unle]⟩
  case round =>
    obtain ⟨j, hj, rfl, rfl⟩ := hrel
    by_cases hlt : j < l.length
    · obtain ⟨b, o, rfl, _, _, hcl⟩ := hseg.form (by rw [bytesV_length]; exact hlt)
      have hcell := hcl j (by rw [bytesV_length]; exact hlt)
      rw [bytesV_get _ _ hlt] at hcell
      have hx8 : (l[j]'hlt).toNat < 256 := (l[j]'hlt).toNat_lt
      have hb := unle_lt (l.take j)
      have hs : unle (l.take (j + 1)) = unle (l.take j) + (l[j]'hlt).toNat * 256 ^ j := by
        rw [List.take_succ_eq_append_getElem hlt, unle_snoc, List.length_take, Nat.min_eq_left (Nat.le_of_lt hlt)]
      rw [List.length_take, Nat.min_eq_left (Nat.le_of_lt hlt)] at hb
      have HS := Lib.hid hs
      have HB := Lib.hid hb
      clear hs hb
      generalize (l[j]'hlt).toNat = x at *
      generalize unle (l.take j) = m at *
      clear hcl
      go_wp2
      refine ⟨⟨j + 1, by omega, by go_num, ?_⟩, by simp [intOf]; omega⟩
      rw [or_shift m x j HB.out hx8 (by omega), HS.out]
    · go_wp2
      go_ret
      obtain rfl : j = l.length := by omega
      rw [List.take_length]
      exact ⟨rfl, hrd, hx⟩
theorem rnum_torn (n : Int) (n0 p : Nat) (bs : List UInt8) (torn : Bool) (w : World) (hw : ReaderAt w n0 p bs torn) (h8 : n ≤ 8) (hn : (bs.length : Int) < n) :
    Calls Try.prog 114 #[.pointer (some ⟨p, 0, none⟩), .int .i64 n] w fun e w' =>
      e = .returned (.int .u64 0) ∧ ReaderAt w' n0 p [] true ∧ Ext (one p) w w' :=
  rnum_gen [] [] true n n0 p w h8 (by simp) ((rraw_torn n n0 p bs torn w hw (.inr hn)).mono fun e w' ⟨h1, h2, h3⟩ => ⟨none, 0, h1, .nil _ _ _, h2, h3⟩)
theorem rnum_ok (n : Nat) (n0 p : Nat) (bs : List UInt8) (torn : Bool) (w : World) (hw : ReaderAt w n0 p bs torn) (h8 : n ≤ 8) (hn : n ≤ bs.length) (hlen : bs.length ≤ 1073741824) :
    Calls Try.prog 114 #[.pointer (some ⟨p, 0, none⟩), .int .i64 n] w fun e w' =>
      e = .returned (.int .u64 (unle (bs.take n))) ∧ ReaderAt w' n0 p (bs.drop n) torn ∧ Ext (one p) w w' :=
  rnum_gen (bs.take n) (bs.drop n) torn n n0 p w (by omega) (by simp; omega) ((rraw_ok n (young w) n0 p bs torn w (fun _ h => h) hw hn hlen).mono fun e w' ⟨A, c, h1, h2, h3, h4⟩ =>
    have hl : (bs.take n).length = n := by rw [List.length_take, Nat.min_eq_left hn]
    have hs := (BytesAt.ofOwnAt (h2.bytes rfl)).open
    by
      obtain ⟨A', c', e1, _, _, _, h5⟩ := hs
      injection e1 with e1 e2 e3
      subst e1
      refine ⟨A, c, by rw [h1, hl], ?_, h3, h4⟩
      exact h5.keep (S := noFoot) (Ext.refl _ _) (fun _ _ _ h => h) (fun _ _ _ => trivial))
/-- What a take of a number of n bytes tells. -/
def rdv (n : Nat) (bs : List UInt8) : Nat := if n ≤ bs.length then unle (bs.take n) else 0
theorem rdv_lt (n : Nat) (bs : List UInt8) : rdv n bs < 256 ^ n := by
  unfold rdv
  split
  · have := unle_lt (bs.take n)
    rw [List.length_take] at this
    exact Nat.lt_of_lt_of_le this (Nat.pow_le_pow_right (by decide) (Nat.min_le_left _ _))
  · exact Nat.pow_pos (by decide)
theorem rnum_any (n : Int) (n0 p : Nat) (bs : List UInt8) (torn : Bool) (w : World) (hw : ReaderAt w n0 p bs torn) (h0 : 0 ≤ n) (h8 : n ≤ 8) (hlen : bs.length ≤ 1073741824) :
    Calls Try.prog 114 #[.pointer (some ⟨p, 0, none⟩), .int .i64 n] w fun e w' =>
      e = .returned (.int .u64 (rdv n.toNat bs)) ∧ ReaderAt w' n0 p (bs.drop n.toNat) (torn || decide (bs.length < n.toNat)) ∧ Ext (one p) w w' := by
  obtain ⟨k, rfl⟩ := Int.eq_ofNat_of_zero_le h0
  rw [Int.toNat_natCast]
  by_cases hk : k ≤ bs.length
  · refine (rnum_ok k n0 p bs torn w hw (by omega) hk hlen).mono fun e w' ⟨h1, h2, h3⟩ => ?_
    rw [decide_eq_false (by omega), Bool.or_false]
    exact ⟨by rw [h1, rdv, if_pos hk], h2, h3⟩
  · refine (rnum_torn k n0 p bs torn w hw h8 (by omega)).mono fun e w' ⟨h1, h2, h3⟩ => ?_
    rw [decide_eq_true (by omega), Bool.or_true, List.drop_eq_nil_of_le (by omega)]
    exact ⟨by rw [h1, rdv, if_neg hk]; rfl, h2, h3⟩

/-- The shard's name at the front. -/
def shOf (bs : List UInt8) : Sh := ⟨UInt32.ofNat (rdv 4 bs), UInt16.ofNat (rdv 2 (bs.drop 4)), UInt16.ofNat (rdv 2 (bs.drop 6)), UInt32.ofNat (rdv 4 (bs.drop 8))⟩

set_option maxRecDepth 100000 in
set_option maxHeartbeats 400000 in
theorem rshard_calls (n0 p : Nat) (bs : List UInt8) (torn : Bool) (w : World) (hw : ReaderAt w n0 p bs torn) (hlen : bs.length ≤ 1073741824) :
    Calls Try.prog 92 #[.pointer (some ⟨p, 0, none⟩)] w fun e w' =>
      e = .returned (shOf bs).v ∧ ReaderAt w' n0 p (bs.drop 12) (torn || decide (bs.length < 12)) ∧ Ext (one p) w w' := by
  have b1 : rdv 4 bs < 4294967296 := rdv_lt 4 bs
  have b2 : rdv 2 (bs.drop 4) < 65536 := rdv_lt 2 _
  have b3 : rdv 2 (bs.drop 6) < 65536 := rdv_lt 2 _
  have b4 : rdv 4 (bs.drop 8) < 4294967296 := rdv_lt 4 _
  have hsv : (shOf bs).v = .agg #[.int .u32 (rdv 4 bs), .int .u16 (rdv 2 (bs.drop 4)), .int .u16 (rdv 2 (bs.drop 6)), .int .u32 (rdv 4 (bs.drop 8))] := by
    unfold shOf Sh.v Sh.cells
    simp [Nat.mod_eq_of_lt b1, Nat.mod_eq_of_lt b2, Nat.mod_eq_of_lt b3, Nat.mod_eq_of_lt b4]
  rw [hsv]
  clear hsv
  have hpl : p < w.heap.size := by obtain ⟨_, v, h, _⟩ := hw; exact lt_of h
  have hn0 : n0 ≤ p := hw.1
  have hl1 : (bs.drop 4).length ≤ 1073741824 := by simp; omega
  have hl2 : (bs.drop 6).length ≤ 1073741824 := by simp; omega
  have hl3 : (bs.drop 8).length ≤ 1073741824 := by simp; omega
  have e12 : ((((torn || decide (bs.length < 4)) || decide ((bs.drop 4).length < 2)) || decide ((bs.drop 6).length < 2)) || decide ((bs.drop 8).length < 4)) = (torn || decide (bs.length < 12)) := by
    simp only [List.length_drop]
    cases torn
    · by_cases h : bs.length < 12
      · simp [h]; omega
      · simp [h]; omega
    · simp
  have d6 : (bs.drop 4).drop 2 = bs.drop 6 := by simp
  have d8 : (bs.drop 6).drop 2 = bs.drop 8 := by simp
  have d12 : (bs.drop 8).drop 4 = bs.drop 12 := by simp
  have hw0 : ReaderAt (w.alloc (.cells #[.int .u32 0, .int .u16 0, .int .u16 0, .int .u32 0] 25)) n0 p bs torn := hw.ext (T := noFoot) ((Ext.refl _ _).alloc _) (fun h => h) (fun _ _ h => h)
  have hbx := alloc_at w (.cells #[.int .u32 0, .int .u16 0, .int .u16 0, .int .u32 0] 25)
  have r1 := fun wx (h : ReaderAt wx n0 p bs torn) => rnum_any 4 n0 p bs torn wx h (by decide) (by decide) hlen
  have r2 := fun t wx (h : ReaderAt wx n0 p (bs.drop 4) t) => rnum_any 2 n0 p (bs.drop 4) t wx h (by decide) (by decide) hl1
  have r3 := fun t wx (h : ReaderAt wx n0 p (bs.drop 6) t) => rnum_any 2 n0 p (bs.drop 6) t wx h (by decide) (by decide) hl2
  have r4 := fun t wx (h : ReaderAt wx n0 p (bs.drop 8) t) => rnum_any 4 n0 p (bs.drop 8) t wx h (by decide) (by decide) hl3
  simp only [show Int.toNat 4 = 4 from rfl, show Int.toNat 2 = 2 from rfl, d6, d8, d12] at r1 r2 r3 r4
  generalize rdv 4 bs = a at *
  generalize rdv 2 (bs.drop 4) = b at *
  generalize rdv 2 (bs.drop 6) = c at *
  generalize rdv 4 (bs.drop 8) = d at *
  have R1 := Lib.hid r1
  have R2 := Lib.hid r2
  have R3 := Lib.hid r3
  have R4 := Lib.hid r4
  have E12 := Lib.hid e12
  clear r1 r2 r3 r4 d6 d8 d12 e12 hl1 hl2 hl3
  go_enter Try.func92, Try.ntmps92
  go_wp2_with fail
  refine (R1.out _ hw0).mono ?_
  rintro e w1 ⟨rfl, hw1, hx1⟩
  go_wp2_with fail
  refine (R2.out _ _ hw1).mono ?_
  rintro e w2 ⟨rfl, hw2, hx2⟩
  go_wp2_with fail
  refine (R3.out _ _ hw2).mono ?_
  rintro e w3 ⟨rfl, hw3, hx3⟩
  go_wp2_with fail
  refine (R4.out _ _ hw3).mono ?_
  rintro e w4 ⟨rfl, hw4, hx4⟩
  have hp0 : ¬ one p w.heap.size := fun (e : w.heap.size = p) => by omega
  have hb4 := hx4.block (hx3.block (hx2.block (hx1.block hbx hp0) hp0) hp0) hp0
  have hc4 := cells_of hb4
  have hf4 := free_of hb4
  go_wp2
  have hbF := set_of (set_of (set_of (set_of hb4 0 (.int .u32 a)) 1 (.int .u16 b)) 2 (.int .u16 c)) 3 (.int .u32 d)
  have hyo : ∀ i : Addr, i.block = w.heap.size → i.block < w.heap.size → one p i.block := fun i h h' => by omega
  have xF := (((((((((Ext.refl (one p) w).alloc (.cells #[.int .u32 0, .int .u16 0, .int .u16 0, .int .u32 0] 25)).trans hx1 (fun _ _ h => h)).trans hx2 (fun _ _ h => h)).trans hx3 (fun _ _ h => h)).trans hx4 (fun _ _ h => h)).setCell
    ⟨w.heap.size, 0, none⟩ (.int .u32 a) (hyo _ rfl)).setCell ⟨w.heap.size, 1, none⟩ (.int .u16 b) (hyo _ rfl)).setCell ⟨w.heap.size, 2, none⟩ (.int .u16 c) (hyo _ rfl)).setCell ⟨w.heap.size, 3, none⟩ (.int .u32 d) (hyo _ rfl)
  have h4 : w.heap.size < w4.heap.size := lt_of hb4
  have xG := ((((Ext.refl (one w.heap.size) w4).setCell ⟨w.heap.size, 0, none⟩ (.int .u32 a) (fun _ => rfl)).setCell ⟨w.heap.size, 1, none⟩ (.int .u16 b) (fun _ => rfl)).setCell ⟨w.heap.size, 2, none⟩ (.int .u16 c) (fun _ => rfl)).setCell ⟨w.heap.size, 3, none⟩ (.int .u32 d) (fun _ => rfl)
  have hwF := hw4.ext xG (fun (e : p = w.heap.size) => by omega) (fun b hb (e : b = w.heap.size) => by omega)
  have E := E12.out
  simp only [List.length_drop] at E hwF
  rw [E] at hwF
  clear E
  generalize (((w4.setCell ⟨w.heap.size, 0, none⟩ (.int .u32 a)).setCell ⟨w.heap.size, 1, none⟩ (.int .u16 b)).setCell ⟨w.heap.size, 2, none⟩ (.int .u16 c)).setCell ⟨w.heap.size, 3, none⟩ (.int .u32 d) = W' at *
  have cF := cells_of hbF
  exact bodyPost_ret (v := .agg #[.int .u32 a, .int .u16 b, .int .u16 c, .int .u32 d]) (by simp [results, Try.results92, go_sem, cF]) rfl ⟨rfl, hwF, xF⟩

set_option maxRecDepth 100000 in
theorem rest_calls (T : Foot) (n0 p : Nat) (bs : List UInt8) (torn : Bool) (w : World) (hT : Young T w) (hw : ReaderAt w n0 p bs torn) (hlen : bs.length ≤ 1073741824) :
    Calls Try.prog 93 #[.pointer (some ⟨p, 0, none⟩)] w fun e w' =>
      ∃ A c, e = .returned (.slice A bs.length c) ∧ OwnAt w' T 5 1 (.slice A bs.length c) bs.length (bytesV bs) ∧ ReaderAt w' n0 p [] torn ∧ Ext (one p) w w' := by
  have hr := rraw_ok bs.length T n0 p bs torn w hT hw (Nat.le_refl _) hlen
  rw [List.take_length, List.drop_length] at hr
  have HR := Lib.hid hr
  clear hr
  go_enter Try.func93, Try.ntmps93
  go_wp2_with fail
  refine (left_calls n0 p bs torn w hw).mono ?_
  rintro e w1 ⟨rfl, rfl⟩
  go_wp2_with fail
  refine HR.out.mono ?_
  rintro e w2 ⟨A, c, rfl, h2, h3, h4⟩
  go_wp2
  go_ret
  exact ⟨A, c, rfl, h2, h3, h4⟩
end Go.Proofs.Ytmicclopokpgoaa
