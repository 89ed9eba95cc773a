/- Package platter: what spoils cells. -/
import Derived.Test.YtmicclopokpgoaaSync
import Derived.Deep.RegionLaw
namespace Go.Proofs.Ytmicclopokpgoaa
open Go.RowKit
set_option linter.unusedVariables false
set_option linter.unusedSimpArgs false

/-- A byte of a cell turned. -/
def Dk.spoil (D : Dk) (c a : Nat) (bits : UInt8) : Dk := { D with cells := D.cells.set c ((D.cells.getD c []).set a ((D.cells.getD c []).getD a 0 ^^^ bits)) }

theorem bytesV_set (l : List UInt8) (j : Nat) (x : UInt8) : (bytesV l).set j (.int .u8 x.toNat) = bytesV (l.set j x) := by
  simp [bytesV, byteV, List.map_set]
theorem xor_byte (x y : UInt8) : Go.bits BinOp.xor IntKind.u8 (x.toNat : Int) (y.toNat : Int) = ((x ^^^ y).toNat : Int) := by
  rw [u8_xor_nat _ _ x.toNat_lt y.toNat_lt, UInt8.toNat_xor]

/-- A cell handed new bytes, in a block of their own. -/
theorem dcell_end {w w1 W : World} {S : Foot} {p c gA ca cb : Nat} {D : Dk} {B : Option Addr} {y : Int} {vs : List Value} {lv : List (Nat × Value)} {v : Value} {b : List UInt8} (hok : D.ok)
    (h : DiskRows w S p D (some ⟨gA, 0, none⟩) B ca cb y vs lv) (hc : c < D.cells.length) (hl : b.length ≤ 4096) (x1 : Ext noFoot w w1)
    (hW : OwnAt W S 30 1 (.slice (some ⟨gA, 0, none⟩) D.cells.length ca) D.cells.length (vs.set c v)) (xW : Ext (fun x => x = gA ∨ w.heap.size ≤ x) w1 W)
    (hv : BytesAt W (fun x => S x ∧ w.heap.size ≤ x) v b) : DiskAt W S p { D with cells := D.cells.set c b } ∧ Ext S w W := by
  have hgl : gA < w.heap.size := own_lt h.rowA.1 gA rfl
  have hneA := h.rowA.ne h.blk rfl
  have hpl := lt_of h.blk
  have x2 : Ext (one gA) w W := (x1.mono (fun _ _ h => h.elim)).trans xW (fun x hx hT => hT.elim (fun e => e) (fun e => by omega))
  have hkeep : ∀ u bs, BytesAt w (dataF S p (.slice (some ⟨gA, 0, none⟩) D.cells.length ca) (.slice B D.loose.length cb)) u bs → BytesAt W (dataF S p (.slice (some ⟨gA, 0, none⟩) D.cells.length ca) (.slice B D.loose.length cb)) u bs := fun u bs hb =>
    hb.keep x2 (fun x hx hF (e : x = gA) => hF.2.2.1 (by rw [e]; rfl)) (fun _ _ h => h)
  refine ⟨⟨⟨hok.1, by simpa using hok.2.1, ?_, ?_⟩, some ⟨gA, 0, none⟩, B, ca, cb, y, vs.set c v, lv, ⟨h.own, ?_, ?_, ?_, by simpa using h.lenA, h.lenB, ?_, ?_⟩⟩, x2.mono (fun x hx (e : x = gA) => h.rowA.2 x (by rw [e]; rfl))⟩
  · intro b' hb'
    rcases List.mem_or_eq_of_mem_set hb' with hb' | hb'
    · exact hok.2.2.1 _ hb'
    · rw [hb']; exact hl
  · simpa using hok.2.2.2
  · rw [x2.block h.blk (fun (e : p = gA) => hneA (by rw [e]; rfl))]; simp
  · simpa using hW
  · exact h.rowB.ext x2 (fun g hg (e : g = gA) => h.rowA.apart h.rowB rfl gA rfl (e ▸ hg))
  · intro i b' u h1 h2
    simp only at h1
    rw [List.getElem?_set] at h1 h2
    simp only [List.length_set]
    by_cases hi : c = i
    · rw [if_pos hi] at h1 h2
      split at h1 <;> split at h2
      · cases h1; cases h2
        exact hv.keep (S := noFoot) (Ext.refl _ _) (fun _ _ _ h => h) (fun x hx hF => ⟨hF.1, by have := hF.2; omega, fun e => by have := own_lt h.rowA.1 x e; have := hF.2; omega, fun e => by have := own_lt h.rowB.1 x e; have := hF.2; omega⟩)
      all_goals simp_all
    · rw [if_neg hi] at h1 h2
      exact hkeep _ _ (h.datA i b' u h1 h2)
  · intro i x z h1 h2
    obtain ⟨e1, e2⟩ := h.datB i x z h1 h2
    simp only [List.length_set]
    exact ⟨e1, hkeep _ _ e2⟩

set_option maxRecDepth 100000 in
set_option maxHeartbeats 1600000 in
theorem dspoil_ok (c a : Nat) (bits : UInt8) (S : Foot) (p : Nat) (D : Dk) (w : World) (hS : Young S w) (h : DiskAt w S p D) (hc : c < D.cells.length) (ha : a < (D.cells.getD c []).length) :
    Calls Try.prog 61 #[.pointer (some ⟨p, 0, none⟩), .int .i64 c, .int .i64 a, .int .u8 bits.toNat] w fun e w' => e = .returned (.int .i64 0) ∧ DiskAt w' S p (D.spoil c a bits) ∧ Ext S w w' := by
  obtain ⟨hok, A, B, ca, cb, y, vs, lv, h⟩ := h
  have hvc : c < vs.length := by rw [h.lenA]; exact hc
  have hdat := h.datA c _ _ (List.getElem?_eq_getElem hc) (List.getElem?_eq_getElem hvc)
  obtain ⟨gA, hgA, _, hgl, hgc, hgf⟩ := h.rowA.cell (j := c) hvc
  subst hgA
  have qA := hgc c hvc
  have fA := hgf c
  rw [List.getElem?_eq_getElem hvc] at qA
  have c1 := cells_of h.blk 1
  have hpl := lt_of h.blk
  have hbl : (D.cells[c]'hc).length ≤ 4096 := hok.2.2.1 _ (List.getElem_mem hc)
  have hgd : D.cells.getD c [] = D.cells[c]'hc := by rw [List.getD_eq_getElem?_getD, List.getElem?_eq_getElem hc]; rfl
  have hsp : D.spoil c a bits = { D with cells := D.cells.set c ((D.cells.getD c []).set a ((D.cells.getD c []).getD a 0 ^^^ bits)) } := rfl
  rw [hgd] at ha hsp
  clear hgd
  obtain ⟨Av, cv, hvf, _⟩ := hdat.open
  have hdw : BytesAt w.drew (dataF S p (.slice (some ⟨gA, 0, none⟩) D.cells.length ca) (.slice B D.loose.length cb)) vs[c] D.cells[c] := hdat
  have hcl := clone_calls _ _ _ (fun x => S x ∧ w.heap.size ≤ x) w.drew (fun x hx => ⟨hS x hx, hx⟩) hdw (by omega)
  generalize hb0 : D.cells[c] = b at *
  have HB0 := Lib.hid hb0
  clear hb0
  rw [hvf] at qA hcl
  clear hvf hdat hdw
  have HC := Lib.hid hcl
  have HOK := Lib.hid hok
  have HH := Lib.hid h
  have HSP := Lib.hid hsp
  clear hcl hok h hgc hgf hsp
  go_enter Try.func61, Try.ntmps61
  go_wp2_with fail
  have h := HH.out
  have hneA := h.rowA.ne h.blk rfl
  go_region_law (go_simp; go_at_call 94; refine HC.out.mono ?_; rintro e w1 ⟨A1, n1, rfl, ho1, hx1⟩; have hp1 := hx1.block (a := w.drew) h.blk (fun h => h); have z1 := cells_of hp1 1; have qA1 := (hx1.cellP (a := w.drew) qA); have fA1 : w1.frozen? ⟨gA, c, none⟩ = false := (hx1.frozen (a := w.drew) hgl (fun h => h)).trans fA)
  all_goals
    obtain ⟨gN, hgN, hgNS, hgNl, hgNc, hgNf⟩ := ho1.cell (j := a) (by rw [bytesV_length]; exact ha)
    subst hgN
    have hx0 : Ext noFoot w w1 := Ext.trans (b := w.drew) ((Ext.refl noFoot w).drew) hx1 (fun _ _ h => h)
    have hneN : gN ≠ gA := by have := hgNS.2; omega
    have hA1 := (h.rowA.ext hx0 (fun _ _ h => h)).store c (.slice (some ⟨gN, 0, none⟩) b.length n1) (by rw [h.lenA]; exact hc)
    have ho2 := ho1.setCell ⟨gA, c, none⟩ (.slice (some ⟨gN, 0, none⟩) b.length n1) (fun e => hneN (by simpa [Value.ownBlock] using e.symm))
    have xw := (Ext.refl (fun x => x = gA ∨ w.heap.size ≤ x) w1).setCell ⟨gA, c, none⟩ (.slice (some ⟨gN, 0, none⟩) b.length n1) (fun _ => .inl rfl)
    have hp2 := (set_other (w := w1) ⟨gA, c, none⟩ (.slice (some ⟨gN, 0, none⟩) b.length n1) (b := p) (fun e => hneA (by rw [e]; rfl))).trans hp1
    have hcell := (hA1.cell (j := c) (by rw [List.length_set, h.lenA]; exact hc))
    obtain ⟨g', hg', _, _, hcl', _⟩ := hcell
    obtain rfl : gA = g' := by simpa using hg'
    have k1 := hcl' c (by rw [List.length_set, h.lenA]; exact hc)
    rw [List.getElem?_set_self (by rw [h.lenA]; exact hc)] at k1
    obtain ⟨g', hg', _, _, hcl2, hfr2⟩ := ho2.cell (j := a) (by rw [bytesV_length]; exact ha)
    obtain rfl : gN = g' := by simpa using hg'
    have k2 := hcl2 a (by rw [bytesV_length]; exact ha)
    rw [bytesV_get _ _ ha] at k2
    have k3 := hfr2 a
    have k4 := cells_of hp2 1
    have hS2 := ho2.store a (.int .u8 (b[a] ^^^ bits).toNat) (by rw [bytesV_length]; exact ha)
    rw [bytesV_set] at hS2
    have hS3 := BytesAt.ofOwnAt (hS2.bytes rfl)
    have hA3 := hA1.setCell ⟨gN, a, none⟩ (.int .u8 (b[a] ^^^ bits).toNat) (fun e => hneN (by simpa [Value.ownBlock] using e))
    have xw3 := xw.setCell ⟨gN, a, none⟩ (.int .u8 (b[a] ^^^ bits).toNat) (fun _ => .inr hgNS.2)
    have hx := xor_byte b[a] bits
    have hend := dcell_end (b := b.set a (b[a] ^^^ bits)) HOK.out h hc (by rw [List.length_set]; exact hbl) hx0 hA3 xw3 (by simpa using hS3)
    rw [show b.set a (b[a] ^^^ bits) = b.set a (b.getD a 0 ^^^ bits) by rw [List.getD_eq_getElem?_getD, List.getElem?_eq_getElem ha]; rfl, ← HSP.out] at hend
    have HE := Lib.hid hend
    clear hend hS3 hA3 xw3 hS2 hcl2 hfr2 hcl' xw hA1 ho2
    generalize hzz : (b[a] ^^^ bits).toNat = zz at *
    clear hzz
    generalize (b[a]).toNat = xx at *
    go_wp2_with fail
    go_ret
    exact ⟨rfl, HE.out⟩
end Go.Proofs.Ytmicclopokpgoaa
