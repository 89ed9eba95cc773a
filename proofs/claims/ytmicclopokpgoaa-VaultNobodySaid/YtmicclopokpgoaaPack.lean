/- Package pack: what its writer and its reader do. -/
import Derived.Test.YtmicclopokpgoaaChecked
import Derived.Test.YtmicclopokpgoaaBase
import Derived.WalkLawsBesides
import Derived.WalkSpells
import Derived.Outline

import Derived.Deep.DeepMust
import Derived.Lib.Hide
import Derived.Deep.RegionHeld3
import Derived.StillTactics
import Derived.Deep.QuietTactic
import Derived.BigQuiet
namespace Go.Proofs.Ytmicclopokpgoaa
open Go.RowKit
set_option linter.unusedVariables false
set_option linter.unusedSimpArgs false

/-- A number's first k bytes, the least first. -/
def le : Nat → Nat → List UInt8
  | 0, _ => []
  | k + 1, n => UInt8.ofNat n :: le k (n / 256)
theorem le_length (k n : Nat) : (le k n).length = k := by
  induction k generalizing n with
  | zero => rfl
  | succ k ih => simp [le, ih]
theorem le_snoc (k n : Nat) : le (k + 1) n = le k n ++ [UInt8.ofNat (n / 256 ^ k)] := by
  induction k generalizing n with
  | zero => simp [le]
  | succ k ih => rw [le, ih, le]; simp [Nat.pow_succ, Nat.div_div_eq_div_mul, Nat.mul_comm]

theorem E8 : ElemT Try.prog 30 5 1 1 := .mk' (z := .int .u8 0) Try.underlying30 (by kernel_rfl) rfl (by decide)

/-- A writer at block p that has gathered bs; it may use the blocks of S. -/
def WriterAt (w : World) (S : Foot) (p : Nat) (bs : List UInt8) : Prop :=
  S p ∧ ∃ v, w.heap[p]? = some (.cells #[v] 179 (0, 0)) ∧ OwnAt w S 5 1 v bs.length (bytesV bs)
theorem WriterAt.ext {w w' : World} {S T : Foot} {p : Nat} {bs : List UInt8} (h : WriterAt w S p bs) (x : Ext T w w') (hT : ∀ b, b < w.heap.size → S b → ¬ T b) : WriterAt w' S p bs := by
  obtain ⟨h1, v, h2, h3⟩ := h
  exact ⟨h1, v, x.block h2 (hT p (lt_of h2) h1), h3.ext x fun g hg => hT g (own_lt h3.1 g hg) (h3.2 g hg)⟩
theorem WriterAt.alloc {w : World} {S : Foot} {p : Nat} {bs : List UInt8} (h : WriterAt w S p bs) (o : Obj) : WriterAt (w.alloc o) S p bs := h.ext (T := noFoot) ((Ext.refl _ _).alloc o) (fun _ _ _ h => h)
theorem WriterAt.mono {w : World} {S T : Foot} {p : Nat} {bs : List UInt8} (h : WriterAt w S p bs) (hT : ∀ b, b < w.heap.size → S b → T b) : WriterAt w T p bs := by
  obtain ⟨h1, v, h2, h3⟩ := h
  exact ⟨hT p (lt_of h2) h1, v, h2, h3.mono hT⟩
theorem WriterAt.stored {w : World} {S : Foot} {p n : Nat} {v v1 : Value} {l : List Value} {bs : List UInt8} (hB : S p) (hp : w.heap[p]? = some (.cells #[v] 179 (0, 0))) (hown : OwnAt w S 5 1 v1 n l) (hl : l = bytesV bs) :
    WriterAt (w.setCell ⟨p, 0, none⟩ v1) S p bs :=
  ⟨hB, v1, by rw [set_of hp]; rfl, (hown.bytes hl).setCell _ _ (hown.ne hp rfl)⟩

theorem byte_mod (m : Nat) : [Value.int .u8 ((m : Int) % 256)] = bytesV [UInt8.ofNat m] := by
  simp [bytesV, byteV]

set_option maxRecDepth 100000 in
set_option maxHeartbeats 400000 in
theorem num_calls (n : Nat) (size : Int) (S : Foot) (p : Nat) (bs : List UInt8) (w : World) (hn : U64 n) (h0 : 0 ≤ size) (h8 : size ≤ 8) (hy : Young S w) (hw : WriterAt w S p bs) (hlen : bs.length ≤ 1073741824) :
    Calls Try.prog 116 #[.pointer (some ⟨p, 0, none⟩), .int .u64 n, .int .i64 size] w fun e w' =>
      e = .returned (.pointer (some ⟨p, 0, none⟩)) ∧ WriterAt w' S p (bs ++ le size.toNat n) ∧ Ext S w w' := by
  have Hlen := Lib.hid hlen
  clear hlen
  obtain ⟨k, rfl⟩ := Int.eq_ofNat_of_zero_le h0
  rw [Int.toNat_natCast]
  go_enter Try.func116, Try.ntmps116
  go_wp2
  go_loopw [1, 10] (fun m i wr => ∃ j : Nat, j ≤ k ∧ i = .int .i64 j ∧ m = .int .u64 ((n / 256 ^ j : Nat) : Int) ∧ WriterAt wr S p (bs ++ le j n) ∧ Ext S w wr) (fun _ i _ => k - (intOf i).toNat)
  case atStart => exact ⟨0, Nat.zero_le _, rfl, by simp, by simpa [le] using hw, Ext.refl _ _⟩
  case round =>
    obtain ⟨j, hj, rfl, rfl, ⟨hSp, v, hp, hown⟩, hext⟩ := hrel
    have hc := cells_of hp
    have hf := free_of hp
    by_cases hlt : j < k
    · have hle := le_length j n
      have hlen := Hlen.out
      have hyr : Young S wr := hy.later hext
      have hpr := lt_of hp
      have hsn := le_snoc j n
      have hU : n / 256 ^ j / 256 = n / 256 ^ (j + 1) := by rw [Nat.pow_succ, Nat.div_div_eq_div_mul]
      have hm : U64 (n / 256 ^ j) := Nat.lt_of_le_of_lt (Nat.div_le_self _ _) hn
      generalize n / 256 ^ j = m at *
      have HU := Lib.hid hU; clear hU
      have HS := Lib.hid hsn; clear hsn
      have HE := Lib.hid hle; clear hle
      have hsl := SlAt.lit wr (fun _ => True) #[.int .u8 ((m : Int) % 256)] 5 1 1 rfl (by unfold maxLen; omega) trivial
      go_wp2_with (at_builtin; refine wpList_app E8 rfl _ _ rfl rfl (hown.alloc _) rfl hsl (hyr.alloc _) ?_ ?c1; intro A1 c1 w1 hown1 hg1; have hp1 := grown_block hg1 (alloc_block _ hp) (hown.ne hp rfl); have hc1 := cells_of hp1; have hf1 := free_of hp1)
      case c1 =>
        have := HE.out
        exact AppSide.bytes (byte_mod m) (by omega) (by omega)
      go_roundw
      case rel =>
        rw [List.length_append] at hown1
        refine ⟨j + 1, by omega, by go_num, by rw [← HU.out]; rfl, ?_, ?_⟩
        · exact WriterAt.stored hSp hp1 hown1 (by rw [HS.out, ← List.append_assoc, bytesV_append (bs ++ le j n), ← byte_mod])
        · exact ((hext.alloc _).grownAt (hown.alloc _) hg1).setCell _ _ (fun _ => hSp)
      case measure => simp [intOf]; omega
    · go_wp2
      go_ret
      obtain rfl : j = k := by omega
      exact ⟨rfl, ⟨hSp, v, hp, hown⟩, hext⟩

set_option maxRecDepth 100000 in
theorem wraw_calls (vb : Value) (data : List UInt8) (F S : Foot) (p : Nat) (bs : List UInt8) (w : World) (hb : BytesAt w F vb data) (hy : Young S w) (hw : WriterAt w S p bs) (hlen : bs.length ≤ 1073741824) (hlen2 : data.length ≤ 1073741824) :
    Calls Try.prog 101 #[.pointer (some ⟨p, 0, none⟩), vb] w fun e w' =>
      e = .returned (.pointer (some ⟨p, 0, none⟩)) ∧ WriterAt w' S p (bs ++ data) ∧ Ext S w w' := by
  obtain ⟨hSp, v, hp, hown⟩ := hw
  have hc := cells_of hp
  have hf := free_of hp
  have hpr := lt_of hp
  go_enter Try.func101, Try.ntmps101
  go_wp2_with (at_builtin; refine wpList_app E8 rfl _ _ rfl rfl hown rfl hb hy ?_ ?c1; intro A1 c1 w1 hown1 hg1; have hp1 := grown_block hg1 hp (hown.ne hp rfl); have hc1 := cells_of hp1; have hf1 := free_of hp1)
  case c1 => exact AppSide.bytes rfl (by omega) (by omega)
  go_ret
  exact ⟨rfl, WriterAt.stored hSp hp1 hown1 (bytesV_append _ _).symm, ((Ext.refl _ _).grownAt hown hg1).setCell _ _ (fun _ => hSp)⟩

set_option maxRecDepth 100000 in
theorem wbytes_calls (S T : Foot) (p : Nat) (bs : List UInt8) (w : World) (hT : Young T w) (hw : WriterAt w S p bs) (hlen : bs.length ≤ 1073741824) :
    Calls Try.prog 102 #[.pointer (some ⟨p, 0, none⟩)] w fun e w' =>
      ∃ A c, e = .returned (.slice A bs.length c) ∧ OwnAt w' T 5 1 (.slice A bs.length c) bs.length (bytesV bs) ∧ Ext noFoot w w' := by
  obtain ⟨hSp, v, hp, hown⟩ := hw
  have hc := cells_of hp
  have hpr := lt_of hp
  have hsl : SlAt (w.alloc (.cells #[] 5)) S v bs.length 1 (bytesV bs) := (hown.alloc _).slAt
  have hemp := OwnAt.lit w (young w) 5 1 0 #[] rfl (Nat.zero_le _) (fun _ h => h)
  obtain ⟨A, c, rfl⟩ := hown.form
  go_enter Try.func102, Try.ntmps102
  go_wp2_with (at_builtin; refine wpList_app E8 rfl _ _ rfl rfl hemp rfl hsl (Young.alloc (fun _ h => h) _) ?_ ?c1; intro A1 c1 w1 hown1 hg1)
  case c1 => exact AppSide.bytes rfl (by omega) (by omega)
  go_ret
  rw [Nat.zero_add] at hown1
  exact ⟨A1, c1, by simp, ⟨hown1.1, fun g hg => hT g (hown1.2 g hg)⟩, ((Ext.refl _ _).alloc _).grown hg1 (fun k hk hlt => absurd (hemp.2 k hk) (by unfold young; omega))⟩

/-- A shard's name. -/
structure Sh where
  ob : UInt32
  st : UInt16
  sl : UInt16
  gn : UInt32
  deriving DecidableEq
def Sh.cells (s : Sh) : Array Value := #[.int .u32 s.ob.toNat, .int .u16 s.st.toNat, .int .u16 s.sl.toNat, .int .u32 s.gn.toNat]
def Sh.v (s : Sh) : Value := .agg s.cells
def Sh.bytes (s : Sh) : List UInt8 := le 4 s.ob.toNat ++ le 2 s.st.toNat ++ le 2 s.sl.toNat ++ le 4 s.gn.toNat
theorem Sh.bytes_length (s : Sh) : s.bytes.length = 12 := by simp [Sh.bytes, le_length]

set_option maxRecDepth 100000 in
set_option maxHeartbeats 400000 in
theorem wshard_calls (s : Sh) (S : Foot) (p : Nat) (bs : List UInt8) (w : World) (hy : Young S w) (hw : WriterAt w S p bs) (hlen : bs.length ≤ 1073741000) :
    Calls Try.prog 100 #[.pointer (some ⟨p, 0, none⟩), s.v] w fun e w' =>
      e = .returned (.pointer (some ⟨p, 0, none⟩)) ∧ WriterAt w' S p (bs ++ s.bytes) ∧ Ext S w w' := by
  have h1 : s.ob.toNat < 4294967296 := s.ob.toNat_lt
  have h2 : s.st.toNat < 65536 := s.st.toNat_lt
  have h3 : s.sl.toNat < 65536 := s.sl.toNat_lt
  have h4 : s.gn.toNat < 4294967296 := s.gn.toNat_lt
  have e : bs ++ s.bytes = bs ++ le 4 s.ob.toNat ++ le 2 s.st.toNat ++ le 2 s.sl.toNat ++ le 4 s.gn.toNat := by simp [Sh.bytes]
  rw [e]
  clear e
  unfold Sh.v Sh.cells
  generalize s.ob.toNat = a at *
  generalize s.st.toNat = b at *
  generalize s.sl.toNat = c at *
  generalize s.gn.toNat = d at *
  have hpl : p < w.heap.size := by obtain ⟨_, v, h2, _⟩ := hw; exact lt_of h2
  obtain ⟨W, hW⟩ : ∃ W, W = w.alloc (.cells #[.int .u32 a, .int .u16 b, .int .u16 c, .int .u32 d] 25) := ⟨_, rfl⟩
  have hbx : W.heap[w.heap.size]? = some (.cells #[.int .u32 a, .int .u16 b, .int .u16 c, .int .u32 d] 25 (0, 0)) := by rw [hW]; exact alloc_at _ _
  have hwW : WriterAt W (fun b => S b ∧ b ≠ w.heap.size) p bs := by
    rw [hW]; exact (hw.mono (fun b hb hs => ⟨hs, by omega⟩)).alloc _
  have hyW : Young (fun b => S b ∧ b ≠ w.heap.size) W := fun b hb => by
    rw [hW] at hb; simp at hb
    exact ⟨hy b (by omega), by omega⟩
  have hfin : ∀ w', WriterAt w' (fun b => S b ∧ b ≠ w.heap.size) p (bs ++ le 4 a ++ le 2 b ++ le 2 c ++ le 4 d) → Ext (fun b => S b ∧ b ≠ w.heap.size) W w' → WriterAt w' S p (bs ++ le 4 a ++ le 2 b ++ le 2 c ++ le 4 d) ∧ Ext S w w' := fun w' g1 g2 =>
    ⟨g1.mono (fun _ _ h => h.1), by
      have : Ext S w W := by rw [hW]; exact (Ext.refl _ _).alloc _
      exact this.trans g2 (fun _ _ h => h.1)⟩
  go_enter Try.func100, Try.ntmps100
  go_wp2_with fail
  rw [← hW]
  clear hW
  have q0 := cells_of hbx 0
  have q1 := cells_of hbx 1
  have q2 := cells_of hbx 2
  have q3 := cells_of hbx 3
  generalize w.heap.size = hs at *
  have hwD : WriterAt W.drew (fun b => S b ∧ b ≠ hs) p bs := hwW
  have hyD : Young (fun b => S b ∧ b ≠ hs) W.drew := hyW
  have xD : Ext (fun b => S b ∧ b ≠ hs) W W.drew := (Ext.refl _ _).drew
  have u1 : U64 a := Nat.lt_trans h1 (by decide)
  have u2 : U64 b := Nat.lt_trans h2 (by decide)
  have u3 : U64 c := Nat.lt_trans h3 (by decide)
  have u4 : U64 d := Nat.lt_trans h4 (by decide)
  have k4 : (0 : Int) ≤ 4 := by decide
  have k2 : (0 : Int) ≤ 2 := by decide
  have k48 : (4 : Int) ≤ 8 := by decide
  have k28 : (2 : Int) ≤ 8 := by decide
  have l1 : bs.length ≤ 1073741824 := by omega
  have l2 : (bs ++ le 4 a).length ≤ 1073741824 := by simp [le_length]; omega
  have l3 : (bs ++ le 4 a ++ le 2 b).length ≤ 1073741824 := by simp [le_length]; omega
  have l4 : (bs ++ le 4 a ++ le 2 b ++ le 2 c).length ≤ 1073741824 := by simp [le_length]; omega
  have m1 := u64_wrap h1
  have m2 := u64_wrap (Nat.lt_trans h2 (by decide))
  have m3 := u64_wrap (Nat.lt_trans h3 (by decide))
  have m4 := u64_wrap h4
  go_region_held3 (fun w' => w'.cell? ⟨hs, 0, none⟩ = some (.int .u32 a) ∧ w'.cell? ⟨hs, 1, none⟩ = some (.int .u16 b) ∧ w'.cell? ⟨hs, 2, none⟩ = some (.int .u16 c) ∧ w'.cell? ⟨hs, 3, none⟩ = some (.int .u32 d)) (first | exact ⟨cells_of hb4 0, cells_of hb4 1, cells_of hb4 2, cells_of hb4 3⟩ | exact ⟨cells_of hb3 0, cells_of hb3 1, cells_of hb3 2, cells_of hb3 3⟩ | exact ⟨cells_of hb2 0, cells_of hb2 1, cells_of hb2 2, cells_of hb2 3⟩ | exact ⟨cells_of hb1 0, cells_of hb1 1, cells_of hb1 2, cells_of hb1 3⟩ | go_keep)
    (first
     | (go_at_call_of 116 (Value.int .u64 (a : Int)); refine (num_calls a _ _ p bs W.drew u1 k4 k48 hyD hwD l1).mono ?_; rintro e w1 ⟨rfl, hw1, hx1⟩; have hb1 := hx1.block (a := W.drew) hbx (fun h => h.2 rfl))
     | (go_at_call_of 116 (Value.int .u64 (b : Int)); refine (num_calls b _ _ p (bs ++ le 4 a) w1 u2 k2 k28 (hyD.later hx1) hw1 l2).mono ?_; rintro e w2 ⟨rfl, hw2, hx2⟩; have hb2 := hx2.block hb1 (fun h => h.2 rfl))
     | (go_at_call_of 116 (Value.int .u64 (c : Int)); refine (num_calls c _ _ p (bs ++ le 4 a ++ le 2 b) w2 u3 k2 k28 ((hyD.later hx1).later hx2) hw2 l3).mono ?_; rintro e w3 ⟨rfl, hw3, hx3⟩; have hb3 := hx3.block hb2 (fun h => h.2 rfl))
     | (go_at_call_of 116 (Value.int .u64 (d : Int)); refine (num_calls d _ _ p (bs ++ le 4 a ++ le 2 b ++ le 2 c) w3 u4 k4 k48 (((hyD.later hx1).later hx2).later hx3) hw3 l4).mono ?_; rintro e w4 ⟨rfl, hw4, hx4⟩; have hb4 := hx4.block hb3 (fun h => h.2 rfl)))
  clear m1 m2 m3 m4
  go_wp2
  go_ret
  exact ⟨rfl, hfin _ hw4 ((((xD.trans hx1 (fun _ _ h => h)).trans hx2 (fun _ _ h => h)).trans hx3 (fun _ _ h => h)).trans hx4 (fun _ _ h => h))⟩
end Go.Proofs.Ytmicclopokpgoaa
