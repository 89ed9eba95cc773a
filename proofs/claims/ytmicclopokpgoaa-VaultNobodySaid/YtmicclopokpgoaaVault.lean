/- Package vault. -/
import Derived.Test.YtmicclopokpgoaaVread
import Derived.Test.YtmicclopokpgoaaMaps
import Derived.Laws.StructEq
namespace Go.Proofs.Ytmicclopokpgoaa
open Go.RowKit
set_option linter.unusedVariables false
set_option linter.unusedSimpArgs false

def natV (n : Nat) : Value := .int .i64 n
theorem sh_chk (b : Bool) (x0 x1 x2 x3 : Int) (w : World) : (Instr.checkKey b 10000 25 (.agg #[.int .u32 x0, .int .u16 x1, .int .u16 x2, .int .u32 x3])).run Try.prog w = .ok () w := by kernel_rfl
theorem sh_stood : Try.prog.stoodInHeld 25 = false := by kernel_rfl
theorem sh_fields : Try.prog.underlying 25 = some (.struct (Try.prog.fieldsOf 25)) := by kernel_rfl
theorem sh_eq (x y : Sh) (w : World) : (Op.equal 25 x.v y.v).run Try.prog w = .ok (decide (x = y)) w := by
  have e : decide (x = y) = ((((x.ob.toNat : Int) == (y.ob.toNat : Int)) && ((x.st.toNat : Int) == (y.st.toNat : Int))) && (((x.sl.toNat : Int) == (y.sl.toNat : Int)) && ((x.gn.toNat : Int) == (y.gn.toNat : Int)))) := by
    obtain ⟨a, b, c, d⟩ := x
    obtain ⟨a', b', c', d'⟩ := y
    rw [Bool.eq_iff_iff]
    simp [← UInt32.toNat_inj, ← UInt16.toNat_inj, and_assoc]
    omega
  rw [e]
  unfold Sh.v Sh.cells
  generalize (x.ob.toNat : Int) = a
  generalize (x.st.toNat : Int) = b
  generalize (x.sl.toNat : Int) = c
  generalize (x.gn.toNat : Int) = d
  generalize (y.ob.toNat : Int) = a'
  generalize (y.st.toNat : Int) = b'
  generalize (y.sl.toNat : Int) = c'
  generalize (y.gn.toNat : Int) = d'
  unfold Op.equal Op.maxDepth
  rw [run_equalIn_agg w 9999 _ _ _ sh_fields sh_stood]
  simp [Program.fieldsOf, Try.underlying25, Op.eqFields, go_sem]
  by_cases h1 : a = a' <;> by_cases h2 : b = b' <;> by_cases h3 : c = c' <;> by_cases h4 : d = d' <;> simp [h1, h2, h3, h4]
theorem MShard : MapT Try.prog 34 25 3 Sh.v natV 0 where
  und := Try.underlying34
  chk := fun b x w => sh_chk b _ _ _ _ w
  eq := sh_eq
  now := ⟨_, Try.underlying25, fun _ _ => rfl⟩
  zero := fun w => by kernel_rfl
  same := fun x => by simp [Sh.v, Sh.cells, Instr.sameBits]

/-- A vault at block q over the disk at block p, its map at block m: which shard is known in which cell. -/
structure VaultAt (w : World) (q m p : Nat) (L : List (Sh × Nat)) : Prop where
  blk : w.heap[q]? = some (.cells #[.pointer (some ⟨p, 0, none⟩), .map (some m)] 36 (0, 0))
  map : MapAt w Sh.v natV m L
theorem VaultAt.ext {w w' : World} {T : Foot} {q m p : Nat} {L : List (Sh × Nat)} (h : VaultAt w q m p L) (x : Ext T w w') (hq : ¬ T q) (hm : ¬ T m) : VaultAt w' q m p L := ⟨x.block h.blk hq, h.map.ext x hm⟩
theorem VaultAt.later {w w' : World} {q m p : Nat} {L : List (Sh × Nat)} (h : VaultAt w q m p L) (x : Ext noFoot w w') : VaultAt w' q m p L := h.ext x (fun h => h) (fun h => h)
theorem VaultAt.ne {w : World} {q m p : Nat} {L : List (Sh × Nat)} (h : VaultAt w q m p L) : m ≠ q := by
  obtain ⟨es, clock, hm, _⟩ := h.map
  intro e
  rw [e, h.blk] at hm
  cases hm

set_option maxRecDepth 100000 in
theorem vhas_calls (s : Sh) (q m p : Nat) (L : List (Sh × Nat)) (w : World) (h : VaultAt w q m p L) :
    Calls Try.prog 13 #[.pointer (some ⟨q, 0, none⟩), s.v] w fun e w' => e = .returned (.bool (lookL s L).isSome) ∧ Ext noFoot w w' := by
  have c1 := cells_of h.blk 1
  have hql := lt_of h.blk
  have hlk := fun n => run_lookup_ok MShard s ((w.alloc (.cells s.cells 25)).drewN n) (h.map.ext (S := noFoot) (((Ext.refl _ _).alloc (.cells s.cells 25)).drewN n) (fun h => h))
  have hlk0 := run_lookup_ok MShard s (w.alloc (.cells s.cells 25)) (h.map.ext (S := noFoot) ((Ext.refl _ _).alloc (.cells s.cells 25)) (fun h => h))
  unfold Sh.v Sh.cells at hlk hlk0
  unfold Sh.v Sh.cells
  unfold natV at hlk hlk0
  generalize (s.ob.toNat : Int) = a at *
  generalize (s.st.toNat : Int) = b at *
  generalize (s.sl.toNat : Int) = c at *
  generalize (s.gn.toNat : Int) = d at *
  go_enter Try.func13, Try.ntmps13
  go_wp2_with fail
  go_quiet (fail)
  go_wp2_with fail
  go_ret
  exact ⟨rfl, ((Ext.refl _ _).alloc _).drewN _⟩

set_option maxRecDepth 100000 in
theorem vlen_calls (q m p : Nat) (L : List (Sh × Nat)) (w : World) (h : VaultAt w q m p L) :
    Calls Try.prog 11 #[.pointer (some ⟨q, 0, none⟩)] w fun e w' => e = .returned (.int .i64 L.length) ∧ w = w' := by
  have c1 := cells_of h.blk 1
  obtain ⟨es, clock, hm, hp, _⟩ := h.map
  have hlen : (es.size : Int) = L.length := by have := pairs_length hp; simp at this; omega
  have hln : ∀ ty, (Builtin.len_ #[34] ty #[.map (some m)]).run Try.prog w = .ok (.int .i64 L.length) w := fun ty => by
    rw [← hlen]
    simp [Builtin.len_, run_underlying Try.underlying34, run_getMap hm, Result.andThen, goInt]
  go_enter Try.func11, Try.ntmps11
  go_wp2_with fail
  go_ret
  exact ⟨rfl, rfl⟩

set_option maxRecDepth 100000 in
theorem vcell_calls (s : Sh) (q m p : Nat) (L : List (Sh × Nat)) (w : World) (h : VaultAt w q m p L) :
    Calls Try.prog 14 #[.pointer (some ⟨q, 0, none⟩), s.v] w fun e w' => e = .returned (.int .i64 (match lookL s L with | some c => (c : Int) | none => -1)) ∧ Ext noFoot w w' := by
  have hql := lt_of h.blk
  obtain ⟨W, hW⟩ : ∃ W, W = w.alloc (.cells s.cells 25) := ⟨_, rfl⟩
  have xW : Ext noFoot w W := by rw [hW]; exact (Ext.refl _ _).alloc _
  have hhas := vhas_calls s q m p L W (h.later xW)
  have hbx : W.heap[w.heap.size]? = some (.cells s.cells 25 (0, 0)) := by rw [hW]; exact alloc_at _ _
  have cx := cells_of hbx
  unfold Sh.cells at hW cx
  unfold Sh.v Sh.cells at hhas ⊢
  have hsv : s.v = .agg #[.int .u32 s.ob.toNat, .int .u16 s.st.toNat, .int .u16 s.sl.toNat, .int .u32 s.gn.toNat] := rfl
  generalize (s.ob.toNat : Int) = a at *
  generalize (s.st.toNat : Int) = b at *
  generalize (s.sl.toNat : Int) = c at *
  generalize (s.gn.toNat : Int) = d at *
  have HH := Lib.hid hhas
  have HSV := Lib.hid hsv
  have HBX := Lib.hid hbx
  clear hhas hsv hbx
  cases hlk : lookL s L with
  | none =>
    have HLK := Lib.hid hlk
    clear hlk
    go_enter Try.func14, Try.ntmps14
    go_wp2_with fail
    rw [← hW]
    clear hW
    go_wp2_with fail
    refine HH.out.mono ?_
    rw [HLK.out]
    rintro e w1 ⟨rfl, hx1⟩
    go_wp2_with fail
    go_ret
    exact ⟨rfl, xW.then hx1⟩
  | some k =>
    have HLK := Lib.hid hlk
    clear hlk
    go_enter Try.func14, Try.ntmps14
    go_wp2_with fail
    rw [← hW]
    clear hW
    go_wp2_with fail
    refine HH.out.mono ?_
    rw [HLK.out]
    rintro e w1 ⟨rfl, hx1⟩
    have h1 := h.later (xW.then hx1)
    have c1 := cells_of h1.blk 1
    have hb1 := hx1.block HBX.out (fun h => h)
    have cx1 := cells_of hb1
    unfold Sh.cells at cx1
    have hl := fun n => run_lookup MShard s (w1.drewN n) (h1.map.ext (S := noFoot) ((Ext.refl _ w1).drewN n) (fun h => h))
    have hl0 := run_lookup MShard s w1 h1.map
    rw [HSV.out, HLK.out] at hl hl0
    unfold natV at hl hl0
    have hsc : s.cells = #[.int .u32 a, .int .u16 b, .int .u16 c, .int .u32 d] := by have := HSV.out; unfold Sh.v at this; exact Value.agg.inj this
    have hsc0 : #[Value.int .u32 (s.ob.toNat : Int), .int .u16 (s.st.toNat : Int), .int .u16 (s.sl.toNat : Int), .int .u32 (s.gn.toNat : Int)] = s.cells := rfl
    rw [hsc0, hsc] at cx1
    clear hsc hsc0
    simp only [Option.getD_some] at hl hl0
    go_wp2_with fail
    go_quiet (fail)
    go_wp2_with fail
    go_ret
    exact ⟨rfl, (xW.then hx1).drewN _⟩
end Go.Proofs.Ytmicclopokpgoaa
