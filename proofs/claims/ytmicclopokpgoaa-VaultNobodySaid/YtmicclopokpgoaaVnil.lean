/- Package vault: no vault, and one of nothing. -/
import Derived.Test.YtmicclopokpgoaaVopen
namespace Go.Proofs.Ytmicclopokpgoaa
open Go.RowKit
set_option linter.unusedVariables false
set_option linter.unusedSimpArgs false

theorem run_lookup_nil {P : Program} {t k e : TypeId} {κ V : Type} [DecidableEq κ] {encK : κ → Value} {encV : V → Value} {d : V} (M : MapT P t k e encK encV d) (x : κ) (w : World) :
    (Instr.lookup t (.map none) (encK x) true).run P w = .ok (.tuple #[encV d, .bool false]) w := by
  unfold Instr.lookup
  simp only [Sem.run_bind, run_underlying M.und, Result.andThen_ok]
  simp [M.chk, run_findKey M x w [] [] rfl, findIx, Result.andThen, M.zero]
/-- A vault of nothing. -/
def ZeroAt (w : World) (q : Nat) : Prop := w.heap[q]? = some (.cells #[.pointer none, .map none] 36 (0, 0))

set_option maxRecDepth 100000 in
theorem vopen_nil (w : World) : Calls Try.prog 7 #[.pointer none] w fun e w' => e = .returned (.tuple #[.pointer none, .int .i64 3]) ∧ w = w' := by
  go_enter Try.func7, Try.ntmps7
  go_wp2_with fail
  go_ret2
  exact ⟨rfl, rfl⟩
set_option maxRecDepth 100000 in
theorem vhas_nil (s : Sh) (w : World) : Calls Try.prog 13 #[.pointer none, s.v] w fun e w' => e = .returned (.bool false) ∧ Ext noFoot w w' := by
  unfold Sh.v Sh.cells
  go_enter Try.func13, Try.ntmps13
  go_wp2_with fail
  go_ret
  exact ⟨rfl, (Ext.refl _ _).alloc _⟩
set_option maxRecDepth 100000 in
theorem vhas_zero (s : Sh) (q : Nat) (w : World) (h : ZeroAt w q) : Calls Try.prog 13 #[.pointer (some ⟨q, 0, none⟩), s.v] w fun e w' => e = .returned (.bool false) ∧ Ext noFoot w w' := by
  have c1 := cells_of h 1
  have hql := lt_of h
  have hlk := fun n => run_lookup_nil MShard s ((w.alloc (.cells s.cells 25)).drewN n)
  have hlk0 := run_lookup_nil MShard s (w.alloc (.cells s.cells 25))
  unfold Sh.v Sh.cells at hlk hlk0
  unfold Sh.v Sh.cells
  unfold natV at hlk hlk0
  generalize (s.ob.toNat : Int) = a at *
  generalize (s.st.toNat : Int) = b at *
  generalize (s.sl.toNat : Int) = c at *
  generalize (s.gn.toNat : Int) = d at *
  go_enter Try.func13, Try.ntmps13
  go_wp2_with fail
  go_quiet (fail)
  go_wp2_with fail
  go_ret
  exact ⟨rfl, ((Ext.refl _ _).alloc _).drewN _⟩

/-- Get, where Has says no. -/
theorem vget_hasnt (v : Value) (s : Sh) (w : World) (hv : ∀ wx, Ext noFoot w wx → Calls Try.prog 13 #[v, s.v] wx fun e w' => e = .returned (.bool false) ∧ Ext noFoot wx w') :
    Calls Try.prog 8 #[v, s.v] w fun e w' => e = .returned (.tuple #[.slice none 0 0, .int .i64 6]) ∧ Ext noFoot w w' := by
  obtain ⟨a, b, c, d, hsv, hsc⟩ := s.form
  have hh := hv (w.alloc (.cells #[.int .u32 a, .int .u16 b, .int .u16 c, .int .u32 d] 25)) ((Ext.refl _ _).alloc _)
  rw [hsv] at hh ⊢
  have HH := Lib.hid hh
  clear hh hv hsv hsc
  go_enter Try.func8, Try.ntmps8
  go_wp2_with fail
  refine HH.out.mono ?_
  rintro e w1 ⟨rfl, hx1⟩
  go_wp2_with fail
  go_ret2
  exact ⟨rfl, ((Ext.refl _ _).alloc _).then hx1⟩
theorem vcell_hasnt (v : Value) (s : Sh) (w : World) (hv : ∀ wx, Ext noFoot w wx → Calls Try.prog 13 #[v, s.v] wx fun e w' => e = .returned (.bool false) ∧ Ext noFoot wx w') :
    Calls Try.prog 14 #[v, s.v] w fun e w' => e = .returned (.int .i64 (-1)) ∧ Ext noFoot w w' := by
  obtain ⟨a, b, c, d, hsv, hsc⟩ := s.form
  have hh := hv (w.alloc (.cells #[.int .u32 a, .int .u16 b, .int .u16 c, .int .u32 d] 25)) ((Ext.refl _ _).alloc _)
  rw [hsv] at hh ⊢
  have HH := Lib.hid hh
  clear hh hv hsv hsc
  go_enter Try.func14, Try.ntmps14
  go_wp2_with fail
  refine HH.out.mono ?_
  rintro e w1 ⟨rfl, hx1⟩
  go_wp2_with fail
  go_ret
  exact ⟨rfl, ((Ext.refl _ _).alloc _).then hx1⟩
set_option maxRecDepth 100000 in
theorem vlen_nil (w : World) : Calls Try.prog 11 #[.pointer none] w fun e w' => e = .returned (.int .i64 0) ∧ w = w' := by
  go_enter Try.func11, Try.ntmps11
  go_wp2_with fail
  go_ret
  exact ⟨rfl, rfl⟩
set_option maxRecDepth 100000 in
theorem vlist_nil (w : World) : Calls Try.prog 12 #[.pointer none] w fun e w' => e = .returned (.slice none 0 0) ∧ w = w' := by
  go_enter Try.func12, Try.ntmps12
  go_wp2_with fail
  go_ret
  exact ⟨rfl, rfl⟩
/-- No disk behind it: nil, or a vault of nothing. -/
def NoVault (w : World) (v : Value) : Prop := v = .pointer none ∨ ∃ q, v = .pointer (some ⟨q, 0, none⟩) ∧ ZeroAt w q
theorem NoVault.later {w w' : World} {v : Value} (h : NoVault w v) (x : Ext noFoot w w') : NoVault w' v := by
  rcases h with h | ⟨q, h1, h2⟩
  · exact .inl h
  · exact .inr ⟨q, h1, x.block h2 (fun h => h)⟩
set_option maxRecDepth 100000 in
theorem vbegin_none (v : Value) (s : Sh) (A : Option Addr) (n c : Nat) (w : World) (h : NoVault w v) : Calls Try.prog 15 #[v, s.v, .slice A n c] w fun e w' => e = .returned (.int .i64 3) ∧ Ext noFoot w w' := by
  unfold Sh.v Sh.cells
  rcases h with rfl | ⟨q, rfl, h⟩
  · go_enter Try.func15, Try.ntmps15
    go_wp2_with fail
    go_ret
    exact ⟨rfl, (Ext.refl _ _).alloc _⟩
  · have c0 := cells_of h 0
    have hql := lt_of h
    go_enter Try.func15, Try.ntmps15
    go_wp2_with fail
    go_ret
    exact ⟨rfl, (Ext.refl _ _).alloc _⟩
set_option maxRecDepth 100000 in
theorem vdrop_none (v : Value) (s : Sh) (w : World) (h : NoVault w v) : Calls Try.prog 17 #[v, s.v] w fun e w' => e = .returned (.int .i64 3) ∧ Ext noFoot w w' := by
  unfold Sh.v Sh.cells
  rcases h with rfl | ⟨q, rfl, h⟩
  · go_enter Try.func17, Try.ntmps17
    go_wp2_with fail
    go_ret
    exact ⟨rfl, (Ext.refl _ _).alloc _⟩
  · have c0 := cells_of h 0
    have hql := lt_of h
    go_enter Try.func17, Try.ntmps17
    go_wp2_with fail
    go_ret
    exact ⟨rfl, (Ext.refl _ _).alloc _⟩
set_option maxRecDepth 100000 in
theorem vput_none (v : Value) (s : Sh) (A : Option Addr) (n c : Nat) (w : World) (h : NoVault w v) : Calls Try.prog 16 #[v, s.v, .slice A n c] w fun e w' => e = .returned (.int .i64 3) ∧ Ext noFoot w w' := by
  obtain ⟨a, b, c', d, hsv, hsc⟩ := s.form
  have hb := vbegin_none v s A n c (w.alloc (.cells #[.int .u32 a, .int .u16 b, .int .u16 c', .int .u32 d] 25)) (h.later ((Ext.refl _ _).alloc _))
  rw [hsv] at hb ⊢
  have HB := Lib.hid hb
  clear hb hsv hsc h
  go_enter Try.func16, Try.ntmps16
  go_wp2_with fail
  refine HB.out.mono ?_
  rintro e w1 ⟨rfl, hx1⟩
  go_wp2_with fail
  go_ret
  exact ⟨rfl, ((Ext.refl _ _).alloc _).then hx1⟩
end Go.Proofs.Ytmicclopokpgoaa
