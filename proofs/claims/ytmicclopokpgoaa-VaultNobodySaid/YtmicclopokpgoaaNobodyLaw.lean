/- Layer 12's law VaultNobody: the row. -/
import Derived.Test.YtmicclopokpgoaaRows
import Derived.Test.YtmicclopokpgoaaNobody
import Derived.WalkKit
import Derived.ProofKit
import Derived.OpenShut
import Derived.Lib.SmallJoins
import Derived.ChangeSame
import Derived.JoinedOf
import Derived.JoinedAt
import Derived.RowKit3
namespace Go.Proofs.Ytmicclopokpgoaa.vaultNobody
open Go.ChangeShapes Go.WideShapes Go.ChangeAt Go.RowKit Go.Joins
set_option linter.unusedVariables false

theorem own : ownKnob Try.prog.godebug = none := by kernel_rfl
theorem cellsShard : Try.prog.cellsOf 25 = 4 := by kernel_rfl

/-- An answer that no place was met for: nothing is asked of the frozen cells. -/
theorem post_plain {H : Type} {enc : TypeId × Value → H} {P : Program} {f : Func} {s : ChangeSpec} {apart fresh handsOn again : Bool} {W W' : World} {args : Array Value} {v : Value} {ds gs : List (DataW H)}
    (hW : DataW.Whole enc P f.params.toList s.vars apart W args.toList ds gs [])
    (hres : ∀ (b : Nat) (sp : Nat → Bool) (hd : Bool), DataW.TrodAll enc P W' b sp hd f.resultTypes.toList (v.resultList f.resultTypes.size) (s.fn H (ds ++ gs)).results [])
    (hargs : ∀ sp : Nat → Bool, DataW.TrodAll enc P W' 0 sp true f.params.toList args.toList (s.fn H (ds ++ gs)).args [])
    (hvars : ∀ sp : Nat → Bool, DataW.TrodVars enc P W' sp s.vars (s.fn H (ds ++ gs)).vars [])
    (hk : W.keptBut W' (fun p => p ∈ ([] : List MemPlace)))
    (hok : ∀ (j : Nat) (t : TypeId) (r : Value), f.resultTypes[j]? = some t → (v.resultList f.resultTypes.size)[j]? = some r → Value.okWide P W' .any 0 t r) :
    s.post enc P f apart fresh handsOn again W args v W' := by
  refine ⟨ds, gs, [], [], [], [], hW, hres _ _ _, hargs _, hvars _, World.keptBut_mono (fun p hp => ⟨hp, Or.inr (by simp at hp)⟩) hk, fun _ => ?_⟩
  refine ⟨hok, _, _, ([] ++ []) ++ [], ⟨[] ++ [], [], trodAll_append (hargs _) (hres _ _ _), hvars _, rfl, ?_, ?_⟩, ?_⟩
  · intro b off hp
    simp at hp
  · intro ha
    simp
  · intro p hp _
    simp at hp

theorem sh_of {a b c d : Int} (wa : (Lit.int .u32 a).wf = true) (wb : (Lit.int .u16 b).wf = true) (wc : (Lit.int .u16 c).wf = true) (wd : (Lit.int .u32 d).wf = true) :
    ∃ s : Sh, s.v = .agg #[.int .u32 a, .int .u16 b, .int .u16 c, .int .u32 d] := by
  have ha := bounds_u32 wa
  have hb := bounds_u16 wb
  have hc := bounds_u16 wc
  have hd := bounds_u32 wd
  refine ⟨⟨UInt32.ofNat a.toNat, UInt16.ofNat b.toNat, UInt16.ofNat c.toNat, UInt32.ofNat d.toNat⟩, ?_⟩
  have e1 : ((UInt32.ofNat a.toNat).toNat : Int) = a := by rw [UInt32.toNat_ofNat_of_lt' (by simp only [UInt32.size]; omega)]; omega
  have e2 : ((UInt16.ofNat b.toNat).toNat : Int) = b := by rw [UInt16.toNat_ofNat_of_lt' (by simp only [UInt16.size]; omega)]; omega
  have e3 : ((UInt16.ofNat c.toNat).toNat : Int) = c := by rw [UInt16.toNat_ofNat_of_lt' (by simp only [UInt16.size]; omega)]; omega
  have e4 : ((UInt32.ofNat d.toNat).toNat : Int) = d := by rw [UInt32.toNat_ofNat_of_lt' (by simp only [UInt32.size]; omega)]; omega
  simp only [Sh.v, Sh.cells, e1, e2, e3, e4]

set_option maxRecDepth 100000 in
theorem lifted (os : Os) (started : os.Started) (H : Type) (enc : TypeId × Value → H) :
    ReturnsInHanded {} Try.checked os 3 .any (Rows.vaultNobodySpec.pre6 enc Try.prog Try.f3 Rows.vaultNobodyRow.domain false) (Rows.vaultNobodySpec.post enc Try.prog Try.f3 false true false false) := by
  refine returnsInHanded_of_change (C := Try.checked) own started (by kernel_rfl) Try.func3
    (ChangeSpec.witness6 (enc := enc) (C := Try.checked) false ⟨#[], #[.agg #[.int .u32 0, .int .u16 0, .int .u16 0, .int .u32 0], .agg #[.int .u32 0, .int .u16 0, .int .u16 0, .int .u32 0]], []⟩ 8 (by kernel_rfl) (by kernel_rfl) (by kernel_rfl) (by kernel_rfl)) ?_
  intro W base args ds gs before hval0 hW hcnd _
  have hval : ∀ (j : Nat) t v, Try.f3.params[j]? = some t → args[j]? = some v → Value.okWide Try.prog W .any base t v := hval0
  have hW' := hW
  obtain ⟨p, q, hA0, hV, rfl, hfz, hnd⟩ := hW
  have hA : DataW.TrodAll enc Try.prog W 0 (fun _ => true) true Try.f3.params.toList args.toList ds p := hA0
  rw [Try.params3] at hA hval
  obtain ⟨v0, vs0, d0, ds0, p0, q0, hargs, rfl, rfl, h0, r0⟩ := trodAll_cons hA
  obtain ⟨v1, vs1, d1, ds1, p1, q1, rfl, rfl, rfl, h1, r1⟩ := trodAll_cons r0
  obtain ⟨rfl, rfl, rfl⟩ := trodAll_nil r1
  obtain rfl : args = #[v0, v1] := by cases args; simp_all
  obtain ⟨rfl, rfl⟩ := trodVars_none hV
  obtain ⟨c0, c1, c2, c3, y0, y1, y2, y3, m, rfl, rfl, rfl, hy0, hy1, hy2, hy3⟩ := open_agg4 Try.underlying25 (by kernel_rfl) cellsShard (hval 0 25 v0 rfl rfl) h0
  obtain ⟨a0, e0, rfl, wa0⟩ := DataW.trod_int Try.underlying22 hy0
  obtain ⟨a1, e1, rfl, wa1⟩ := DataW.trod_int Try.underlying23 hy1
  obtain ⟨a2, e2, rfl, wa2⟩ := DataW.trod_int Try.underlying23 hy2
  obtain ⟨a3, e3, rfl, wa3⟩ := DataW.trod_int Try.underlying22 hy3
  simp at e0 e1 e2 e3
  subst e0 e1 e2 e3
  obtain ⟨c0, c1, c2, c3, y0, y1, y2, y3, m, rfl, rfl, rfl, hy0, hy1, hy2, hy3⟩ := open_agg4 Try.underlying25 (by kernel_rfl) cellsShard (hval 1 25 v1 rfl rfl) h1
  obtain ⟨b0, e0, rfl, wb0⟩ := DataW.trod_int Try.underlying22 hy0
  obtain ⟨b1, e1, rfl, wb1⟩ := DataW.trod_int Try.underlying23 hy1
  obtain ⟨b2, e2, rfl, wb2⟩ := DataW.trod_int Try.underlying23 hy2
  obtain ⟨b3, e3, rfl, wb3⟩ := DataW.trod_int Try.underlying22 hy3
  simp at e0 e1 e2 e3
  subst e0 e1 e2 e3
  clear hA0 hval0
  simp only [List.append_nil] at hW'
  have shut : ∀ (a b c d : Int) (wa : (Lit.int .u32 a).wf = true) (wb : (Lit.int .u16 b).wf = true) (wc : (Lit.int .u16 c).wf = true) (wd : (Lit.int .u32 d).wf = true) (W' : World) (sp : Nat → Bool),
      DataW.Trod enc Try.prog W' 0 sp true 25 (.agg #[.int .u32 a, .int .u16 b, .int .u16 c, .int .u32 d]) (.agg [.lit (.int .u32 a), .lit (.int .u16 b), .lit (.int .u16 c), .lit (.int .u32 d)]) [] := fun a b c d wa wb wc wd W' sp =>
    shut_agg4 (y0 := (.lit (.int .u32 a), [])) (y1 := (.lit (.int .u16 b), [])) (y2 := (.lit (.int .u16 c), [])) (y3 := (.lit (.int .u32 d), [])) Try.underlying25 (by kernel_rfl) cellsShard
      ⟨1, by simp [DataW.trod, Try.underlying22, wa]⟩ ⟨1, by simp [DataW.trod, Try.underlying23, wb]⟩ ⟨1, by simp [DataW.trod, Try.underlying23, wc]⟩ ⟨1, by simp [DataW.trod, Try.underlying22, wd]⟩
  obtain ⟨s, hs⟩ := sh_of wa0 wa1 wa2 wa3
  obtain ⟨t, ht⟩ := sh_of wb0 wb1 wb2 wb3
  have hc := nobody_calls s t W
  rw [hs, ht] at hc
  refine hc.mono fun e W' ⟨he, hx⟩ => ?_
  subst he
  exact ⟨_, rfl, post_plain hW' (fun _ _ _ => trodAll_mk1 (shut_bool Try.underlying4 _)) (fun sp => trodAll_cons_mk (shut _ _ _ _ wa0 wa1 wa2 wa3 _ _) (trodAll_cons_mk (shut _ _ _ _ wb0 wb1 wb2 wb3 _ _) trodAll_mk0)) (fun _ => rfl)
    (hx.below.frame _) (ok_one (by kernel_rfl) rfl (okWide_bool_mk Try.underlying4 _))⟩

theorem over : Rows.vaultNobodyRow.holds Try.pinned (OpenSpec.ofChange Rows.vaultNobodySpec) :=
  OpenClaim.holds_of_wide 3 Try.f3 rfl rfl rfl rfl rfl rfl rfl ⟨rfl, rfl, rfl, rfl, rfl⟩ rfl rfl rfl rfl rfl (by kernel_rfl) Try.func3 (by kernel_rfl)
    (of_decide_eq_true (by kernel_rfl)) (by unfold Func.isWrapper; first | (rw [if_pos (by decide +kernel)]; kernel_rfl) | (rw [if_neg (by decide +kernel)]; exact ⟨rfl, rfl⟩))
    (fun os started H enc _ => lifted os started H enc)

theorem proved : Rows.VaultNobodySaid :=
  over
#print axioms proved
end Go.Proofs.Ytmicclopokpgoaa.vaultNobody
