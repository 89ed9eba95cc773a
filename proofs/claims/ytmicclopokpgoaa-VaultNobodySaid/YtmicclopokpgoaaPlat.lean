/- Package platter: disks. -/
import Derived.Test.YtmicclopokpgoaaSeal
namespace Go.Proofs.Ytmicclopokpgoaa
open Go.RowKit
set_option linter.unusedVariables false
set_option linter.unusedSimpArgs false

set_option maxRecDepth 100000 in
theorem clone_calls (vb : Value) (bs : List UInt8) (F T : Foot) (w : World) (hT : Young T w) (hb : BytesAt w F vb bs) (hlen : bs.length ≤ 1073741824) :
    Calls Try.prog 94 #[vb] w fun e w' =>
      ∃ A c, e = .returned (.slice A bs.length c) ∧ OwnAt w' T 5 1 (.slice A bs.length c) bs.length (bytesV bs) ∧ Ext noFoot w w' := by
  obtain ⟨A, c, rfl, hc1, hc2, hc0, hseg⟩ := hb.open
  have hsl := SlAt.later hb ((Ext.refl noFoot w).alloc (.cells #[] 5))
  have hemp := OwnAt.lit w (young w) 5 1 0 #[] rfl (Nat.zero_le _) (fun _ h => h)
  cases A with
  | none =>
    have hc := hc0 rfl
    subst hc
    have hl : bs.length = 0 := by omega
    obtain rfl : bs = [] := List.eq_nil_of_length_eq_zero hl
    have hq := fun (w : World) => Lib.run_eql_slice_nil (P := Try.prog) w 30 5 none 0 0 0 0 Try.underlying30
    go_enter Try.func94, Try.ntmps94
    go_wp2
    go_ret
    exact ⟨none, 0, rfl, OwnAt.nil _ _ _ _, Ext.refl _ _⟩
  | some ad =>
    have hq := fun (w : World) => Lib.run_eql_slice_nil (P := Try.prog) w 30 5 (some ad) bs.length c 0 0 Try.underlying30
    go_enter Try.func94, Try.ntmps94
    go_wp2_with (at_builtin; refine wpList_app E8 rfl _ _ rfl rfl hemp rfl hsl (Young.alloc (fun _ h => h) _) ?_ ?c1; intro A1 c1 w1 hown1 hg1)
    case c1 => exact AppSide.bytes rfl (by omega) (by omega)
    go_ret
    rw [Nat.zero_add] at hown1
    exact ⟨A1, c1, by simp, ⟨hown1.1, fun g hg => hT g (hown1.2 g hg)⟩, ((Ext.refl _ _).alloc _).grown hg1 (fun k hk hlt => absurd (hemp.2 k hk) (by unfold young; omega))⟩

/-- make([]T, n), elements of one cell. -/
theorem wpList_mk {P : Program} {w : World} {ops : Array Oper} {rest : List Oper} {o : Oper} {a : Act} {Q : Exit → Act → World → Prop} {t e : TypeId} {z : Value} {bytes : Nat} {S : Foot} (und : P.underlying t = some (.slice e))
    (hinfo : (P.info? e).map (fun i => (i.zero, i.size, i.bytes)) = some (some z, 1, bytes)) (hz : z.cells = #[z]) (hg : o.guard = none) (l c : Operand) (hop : o.op = Op.makeSlice t l c) (n : Nat)
    (hl : a.eval l = .int .i64 n) (hc : a.eval c = .int .i64 n) (hy : Young S w) (b2 : bytes * n ≤ 281474976710656) (b3 : n ≤ maxLen)
    (h : ∀ w', OwnAt w' S e 1 (.slice (some ⟨w.heap.size, 0, none⟩) n n) n (List.replicate n z) → w.grownBy w' none → wpList P ops Q rest (a.put o.dst (.slice (some ⟨w.heap.size, 0, none⟩) n n)) w') : wpList P ops Q (o :: rest) a w := by
  obtain ⟨i, h1, h2, h3, h4⟩ := info_parts hinfo
  refine wpList_make_full w hg l c t hop 0 e i z 1 und h1 h2 h3 .i64 .i64 n n n hl hc rfl rfl (by rw [h4]; exact b2) b3 (Nat.zero_le _) (fun w' r1 r2 => h w' ⟨?_, ?_⟩ r2)
  · rw [hz, toList_madeCells_one, Nat.mul_one] at r1
    exact r1
  · intro g hg'
    have : w.heap.size = g := by simpa [Value.ownBlock] using hg'
    exact hy g (by omega)

theorem E75 : ElemT Try.prog 75 30 1 24 := .mk' (z := .slice none 0 0) Try.underlying75 (by kernel_rfl) rfl (by decide)
theorem E131 : ElemT Try.prog 131 170 2 32 := .mk' (z := .agg #[.int .i64 0, .slice none 0 0]) Try.underlying131 (by kernel_rfl) rfl (by decide)

/-- A disk: how many bytes a cell has at most, the cells, the loose writes. -/
structure Dk where
  size : Nat
  cells : List (List UInt8)
  loose : List (Nat × List UInt8)
/-- The cells of loose writes' values. -/
def looseV (l : List (Nat × Value)) : List Value := l.flatMap fun x => [.int .i64 x.1, x.2]
/-- Where a disk's bytes lie: not in the disk's own rows. -/
def dataF (S : Foot) (p : Nat) (u v : Value) : Foot := fun b => S b ∧ b ≠ p ∧ u.ownBlock ≠ some b ∧ v.ownBlock ≠ some b
/-- What may be of a disk. -/
def Dk.ok (D : Dk) : Prop := D.size ≤ 4096 ∧ D.cells.length ≤ 1024 ∧ (∀ b ∈ D.cells, b.length ≤ 4096) ∧ ∀ x ∈ D.loose, x.1 < D.cells.length ∧ x.2.length ≤ 4096
/-- The rows of a disk, as they lie. -/
structure DiskRows (w : World) (S : Foot) (p : Nat) (D : Dk) (A B : Option Addr) (ca cb : Nat) (y : Int) (vs : List Value) (lv : List (Nat × Value)) : Prop where
  own : S p
  blk : w.heap[p]? = some (.cells #[.int .i64 D.size, .slice A D.cells.length ca, .slice B D.loose.length cb, .int .i64 y] 133 (0, 0))
  rowA : OwnAt w S 30 1 (.slice A D.cells.length ca) D.cells.length vs
  rowB : OwnAt w S 170 2 (.slice B D.loose.length cb) D.loose.length (looseV lv)
  lenA : vs.length = D.cells.length
  lenB : lv.length = D.loose.length
  datA : ∀ (i : Nat) (b : List UInt8) (v : Value), D.cells[i]? = some b → vs[i]? = some v → BytesAt w (dataF S p (.slice A D.cells.length ca) (.slice B D.loose.length cb)) v b
  datB : ∀ (i : Nat) (x : Nat × List UInt8) (y : Nat × Value), D.loose[i]? = some x → lv[i]? = some y → y.1 = x.1 ∧ BytesAt w (dataF S p (.slice A D.cells.length ca) (.slice B D.loose.length cb)) y.2 x.2
/-- A disk at block p; it may use the blocks of S. -/
def DiskAt (w : World) (S : Foot) (p : Nat) (D : Dk) : Prop := D.ok ∧ ∃ A B ca cb y vs lv, DiskRows w S p D A B ca cb y vs lv

theorem DiskAt.ext {w w' : World} {S T : Foot} {p : Nat} {D : Dk} (h : DiskAt w S p D) (x : Ext T w w') (hT : ∀ b, b < w.heap.size → S b → ¬ T b) : DiskAt w' S p D := by
  obtain ⟨hok, A, B, ca, cb, y, vs, lv, h⟩ := h
  refine ⟨hok, A, B, ca, cb, y, vs, lv, ⟨h.own, x.block h.blk (hT p (lt_of h.blk) h.own), ?_, ?_, h.lenA, h.lenB, ?_, ?_⟩⟩
  · exact h.rowA.ext x fun g hg => hT g (own_lt h.rowA.1 g hg) (h.rowA.2 g hg)
  · exact h.rowB.ext x fun g hg => hT g (own_lt h.rowB.1 g hg) (h.rowB.2 g hg)
  · exact fun i b v h1 h2 => (h.datA i b v h1 h2).keep x (fun b hb hs => hT b hb hs.1) (fun _ _ h => h)
  · exact fun i b v h1 h2 => ⟨(h.datB i b v h1 h2).1, (h.datB i b v h1 h2).2.keep x (fun b hb hs => hT b hb hs.1) (fun _ _ h => h)⟩
theorem DiskAt.mono {w : World} {S T : Foot} {p : Nat} {D : Dk} (h : DiskAt w S p D) (hT : ∀ b, b < w.heap.size → S b → T b) : DiskAt w T p D := by
  obtain ⟨hok, A, B, ca, cb, y, vs, lv, h⟩ := h
  refine ⟨hok, A, B, ca, cb, y, vs, lv, ⟨hT p (lt_of h.blk) h.own, h.blk, h.rowA.mono hT, h.rowB.mono hT, h.lenA, h.lenB, ?_, ?_⟩⟩
  · exact fun i b v h1 h2 => (h.datA i b v h1 h2).keep (S := noFoot) (Ext.refl _ _) (fun _ _ _ h => h) (fun b hb hs => ⟨hT b hb hs.1, hs.2⟩)
  · exact fun i b v h1 h2 => ⟨(h.datB i b v h1 h2).1, (h.datB i b v h1 h2).2.keep (S := noFoot) (Ext.refl _ _) (fun _ _ _ h => h) (fun b hb hs => ⟨hT b hb hs.1, hs.2⟩)⟩
theorem DiskAt.lt {w : World} {S : Foot} {p : Nat} {D : Dk} (h : DiskAt w S p D) : p < w.heap.size := by
  obtain ⟨hok, A, B, ca, cb, y, vs, lv, h⟩ := h
  exact lt_of h.blk

set_option maxRecDepth 100000 in
theorem dlen_calls (S : Foot) (p : Nat) (D : Dk) (w : World) (h : DiskAt w S p D) :
    Calls Try.prog 50 #[.pointer (some ⟨p, 0, none⟩)] w fun e w' => e = .returned (.tuple #[.int .i64 D.cells.length, .int .i64 D.size]) ∧ Ext noFoot w w' := by
  obtain ⟨hok, A, B, ca, cb, y, vs, lv, h⟩ := h
  have c0 := cells_of h.blk 0
  have c1 := cells_of h.blk 1
  go_enter Try.func50, Try.ntmps50
  go_wp2
  go_quiet (fail)
  go_wp2
  go_ret2
  exact ⟨rfl, (Ext.refl _ _).drewN _⟩

def Dk.new (cells size : Nat) : Dk := ⟨size, List.replicate cells [], []⟩

set_option maxRecDepth 100000 in
theorem dnew_calls (cells size : Int) (S : Foot) (w : World) (hS : Young S w) (h1 : 1 ≤ cells) (h2 : cells ≤ 1024) (h3 : 1 ≤ size) (h4 : size ≤ 4096) :
    Calls Try.prog 36 #[.int .i64 cells, .int .i64 size] w fun e w' => ∃ p, e = .returned (.tuple #[.pointer (some ⟨p, 0, none⟩), .int .i64 0]) ∧ w.heap.size ≤ p ∧ DiskAt w' S p (Dk.new cells.toNat size.toNat) ∧ Ext noFoot w w' := by
  obtain ⟨n, rfl⟩ := Int.eq_ofNat_of_zero_le (show 0 ≤ cells by omega)
  obtain ⟨z, rfl⟩ := Int.eq_ofNat_of_zero_le (show 0 ≤ size by omega)
  rw [Int.toNat_natCast, Int.toNat_natCast]
  go_enter Try.func36, Try.ntmps36
  go_wp2_with (at_make; refine wpList_mk (z := .slice none 0 0) (bytes := 24) (S := S) Try.underlying75 (by kernel_rfl) rfl rfl _ _ rfl n rfl rfl hS (by omega) (by unfold maxLen; omega) ?_; intro w1 ho1 hg1)
  go_ret2
  have hl1 : w.heap.size < w1.heap.size := own_lt ho1.1 _ rfl
  have hp := alloc_at w1 (.cells #[.int .i64 z, .slice (some ⟨w.heap.size, 0, none⟩) n n, .slice none 0 0, .int .i64 0] 133)
  refine ⟨w1.heap.size, rfl, by omega, ⟨⟨by simp [Dk.new]; omega, by simp [Dk.new]; omega, ?_, ?_⟩, some ⟨w.heap.size, 0, none⟩, none, n, 0, 0, List.replicate n (.slice none 0 0), [], ⟨hS _ (by omega), ?_, ?_, ?_, ?_, rfl, ?_, ?_⟩⟩, ((Ext.refl _ _).grown hg1 (by simp)).alloc _⟩
  · intro b hb; simp [Dk.new] at hb; simp [hb.2]
  · intro b hb; simp [Dk.new] at hb
  · simpa [Dk.new] using hp
  · simpa [Dk.new] using ho1.alloc _
  · exact OwnAt.nil _ _ _ _
  · simp [Dk.new]
  · intro i b v h1 h2
    simp only [Dk.new, List.getElem?_replicate] at h1 h2
    split at h1
    · cases h1; cases (by simpa [*] using h2 : Value.slice none 0 0 = v); exact BytesAt.nil _ _
    · cases h1
  · intro i x y h1; simp [Dk.new] at h1

theorem looseV_length (l : List (Nat × Value)) : (looseV l).length = l.length * 2 := by
  induction l with
  | nil => rfl
  | cons x l ih =>
    have : looseV (x :: l) = .int .i64 x.1 :: x.2 :: looseV l := rfl
    rw [this]; simp [ih]; omega
theorem looseV_get (l : List (Nat × Value)) (j : Nat) (h : j < l.length) : (looseV l)[j * 2]? = some (.int .i64 ((l[j]'h).1 : Nat)) ∧ (looseV l)[j * 2 + 1]? = some (l[j]'h).2 := by
  induction l generalizing j with
  | nil => simp at h
  | cons x l ih =>
    have e : looseV (x :: l) = .int .i64 x.1 :: x.2 :: looseV l := rfl
    cases j with
    | zero => rw [e]; simp
    | succ j =>
      have := ih j (by simpa using h)
      rw [e, show (j + 1) * 2 = j * 2 + 1 + 1 by omega]
      simpa using this
theorem looseV_append (l k : List (Nat × Value)) : looseV (l ++ k) = looseV l ++ looseV k := by simp [looseV]

/-- The last write to a cell, or else what stands there. -/
def lastOf (c : Nat) (d : List UInt8) (l : List (Nat × List UInt8)) : List UInt8 := l.foldl (fun b x => if x.1 = c then x.2 else b) d
theorem lastOf_snoc (c : Nat) (d : List UInt8) (l : List (Nat × List UInt8)) (x : Nat × List UInt8) : lastOf c d (l ++ [x]) = if x.1 = c then x.2 else lastOf c d l := by simp [lastOf]
def Dk.read (D : Dk) (cell : Int) : List UInt8 := if 0 ≤ cell ∧ cell < D.cells.length then lastOf cell.toNat (D.cells.getD cell.toNat []) D.loose else []

theorem OwnAt.len_le {w : World} {S : Foot} {e size n : Nat} {v : Value} {xs : List Value} (h : OwnAt w S e size v n xs) : n ≤ 9223372036854775807 := by
  rcases h.1.2 with ⟨_, h0⟩ | ⟨g, cap, cur, _, _, _, h1, h2, _⟩
  · omega
  · unfold maxLen at h2; omega

set_option maxRecDepth 100000 in
set_option maxHeartbeats 800000 in
theorem dread_in (c : Nat) (S T : Foot) (p : Nat) (D : Dk) (w : World) (hT : Young T w) (h : DiskAt w S p D) (hc : c < D.cells.length) :
    Calls Try.prog 52 #[.pointer (some ⟨p, 0, none⟩), .int .i64 c] w fun e w' =>
      ∃ A n, e = .returned (.slice A (D.read c).length n) ∧ OwnAt w' T 5 1 (.slice A (D.read c).length n) (D.read c).length (bytesV (D.read c)) ∧ Ext noFoot w w' := by
  obtain ⟨hok, A, B, ca, cb, y, vs, lv, h⟩ := h
  have hrd : D.read c = lastOf c (D.cells[c]'hc) D.loose := by
    unfold Dk.read
    rw [if_pos ⟨by omega, by omega⟩, Int.toNat_natCast, List.getD_eq_getElem?_getD, List.getElem?_eq_getElem hc, Option.getD_some]
  rw [hrd]
  clear hrd
  have c1 := cells_of h.blk 1
  have c2 := cells_of h.blk 2
  obtain ⟨gA, rfl, hgS, hgl, hgc, _⟩ := h.rowA.cell (j := c) (by rw [h.lenA]; exact hc)
  have hcA := hgc c (by rw [h.lenA]; exact hc)
  have hvc : c < vs.length := by rw [h.lenA]; exact hc
  rw [List.getElem?_eq_getElem hvc] at hcA
  have hdat := h.datA c _ _ (List.getElem?_eq_getElem hc) (List.getElem?_eq_getElem hvc)
  have hclean := clone_calls _ _ _ T w hT hdat (Nat.le_trans (hok.2.2.1 _ (List.getElem_mem hc)) (by omega))
  have hlb : ∀ x ∈ D.loose, x.2.length ≤ 4096 := fun x hx => (hok.2.2.2 x hx).2
  have hB := h.rowB
  have hdB := h.datB
  have hlenB := h.lenB
  generalize D.cells[c] = d at *
  generalize vs[c] = vd at *
  generalize D.loose = L at *
  generalize D.cells.length = nc at *
  generalize D.size = sz at *
  clear h hdat hgc hok
  have hLm := hB.len_le
  have HL := Lib.hid hlenB
  have HC := Lib.hid hclean
  have HB := Lib.hid hB
  have HD := Lib.hid hdB
  clear hlenB hclean hB hdB
  go_enter Try.func52, Try.ntmps52
  go_wp2_with fail
  go_loop [5] (fun i => ∃ k : Int, -1 ≤ k ∧ k < L.length ∧ i = .int .i64 k ∧ lastOf c d (L.take (k + 1).toNat) = lastOf c d L) (fun i => (intOf i + 1).toNat)
  case atStart => exact ⟨L.length - 1, by omega, by omega, rfl, by rw [show ((L.length : Int) - 1 + 1).toNat = L.length by omega, List.take_length]⟩
  case round =>
    obtain ⟨k, hk0, hk1, rfl, hk⟩ := hrel
    have HK := Lib.hid hk
    clear hk
    by_cases hneg : 0 ≤ k
    · obtain ⟨j, rfl⟩ := Int.eq_ofNat_of_zero_le hneg
      have hjL : j < L.length := by omega
      have hjl : j < lv.length := by rw [HL.out]; exact hjL
      obtain ⟨gB, rfl, _, _, hcl, _⟩ := HB.out.cell (j := j * 2) (by rw [looseV_length]; omega)
      have q0 := hcl (j * 2) (by rw [looseV_length]; omega)
      have q1 := hcl (j * 2 + 1) (by rw [looseV_length]; omega)
      rw [(looseV_get lv j hjl).1] at q0
      rw [(looseV_get lv j hjl).2] at q1
      have hd := HD.out j _ _ (List.getElem?_eq_getElem hjL) (List.getElem?_eq_getElem hjl)
      have hcl2 := clone_calls _ _ _ T w hT hd.2 (Nat.le_trans (hlb _ (List.getElem_mem hjL)) (by omega))
      have htk : L.take (j + 1) = L.take j ++ [L[j]] := List.take_succ_eq_append_getElem hjL
      have hsn := lastOf_snoc c d (L.take j) L[j]
      have hk := HK.out
      rw [show ((j : Int) + 1).toNat = j + 1 by omega, htk, hsn] at hk
      clear hcl HK htk hsn
      rw [hd.1] at q0
      generalize L[j] = x at *
      generalize (lv[j]).2 = vx at *
      have HK := Lib.hid hk
      have HC2 := Lib.hid hcl2
      clear hk hcl2 hd
      by_cases hx : x.1 = c
      · have z1 : (((x.1 : Nat) : Int) == (c : Int)) = true := by simp [hx]
        rw [if_pos hx] at HK
        go_wp2_with fail
        refine HC2.out.mono ?_
        rintro e w1 ⟨A1, c1, rfl, ho1, hx1⟩
        go_wp2
        go_ret
        exact ⟨A1, c1, by rw [← HK.out]; rfl, by rw [← HK.out]; exact ho1, hx1⟩
      · have z1 : (((x.1 : Nat) : Int) == (c : Int)) = false := by simp; omega
        rw [if_neg hx] at HK
        go_wp2_with fail
        refine ⟨⟨(j : Int) - 1, by omega, by omega, rfl, ?_⟩, by simp [intOf] <;> omega⟩
        rw [show ((j : Int) - 1 + 1).toNat = j by omega]; exact HK.out
    · obtain rfl : k = -1 := by omega
      go_wp2_with fail
      refine HC.out.mono ?_
      rintro e w1 ⟨A1, c1, rfl, ho1, hx1⟩
      go_wp2
      go_ret
      have he : lastOf c d L = d := by rw [← HK.out]; rfl
      rw [he]
      exact ⟨A1, c1, rfl, ho1, hx1⟩

set_option maxRecDepth 100000 in
theorem dread_out (c : Int) (S : Foot) (p : Nat) (D : Dk) (w : World) (h : DiskAt w S p D) (hc : c < 0 ∨ (D.cells.length : Int) ≤ c) :
    Calls Try.prog 52 #[.pointer (some ⟨p, 0, none⟩), .int .i64 c] w fun e w' => e = .returned (.slice none 0 0) ∧ w = w' := by
  obtain ⟨hok, A, B, ca, cb, y, vs, lv, h⟩ := h
  have c1 := cells_of h.blk 1
  by_cases hn : c < 0
  · go_enter Try.func52, Try.ntmps52
    go_wp2_with fail
    go_ret
    exact ⟨rfl, rfl⟩
  · have hc2 : (D.cells.length : Int) ≤ c := by omega
    go_enter Try.func52, Try.ntmps52
    go_wp2_with fail
    go_ret
    exact ⟨rfl, rfl⟩
theorem dread_calls (c : Int) (S T : Foot) (p : Nat) (D : Dk) (w : World) (hT : Young T w) (h : DiskAt w S p D) :
    Calls Try.prog 52 #[.pointer (some ⟨p, 0, none⟩), .int .i64 c] w fun e w' =>
      ∃ A n, e = .returned (.slice A (D.read c).length n) ∧ OwnAt w' T 5 1 (.slice A (D.read c).length n) (D.read c).length (bytesV (D.read c)) ∧ Ext noFoot w w' := by
  by_cases hc : 0 ≤ c ∧ c < D.cells.length
  · obtain ⟨k, rfl⟩ := Int.eq_ofNat_of_zero_le hc.1
    exact dread_in k S T p D w hT h (by omega)
  · refine (dread_out c S p D w h (by omega)).mono fun e w' ⟨h1, h2⟩ => ?_
    subst h2
    unfold Dk.read
    rw [if_neg hc]
    exact ⟨none, 0, h1, OwnAt.nil _ _ _ _, Ext.refl _ _⟩

end Go.Proofs.Ytmicclopokpgoaa
