/- FnExactGateSlipOk, where what it reads is of bulk at most 1048576: it returns true, and its arguments read as they did. -/
import Derived.Test.YtcakciamoopkcaaGreatGtp
import Derived.Test.YtcakciamoopkcaaGreatGtf
import Derived.Test.YtcakciamoopkcaaGreatGtS
namespace Go.Vc
open Go.Proofs Go.Proofs.YtcakciamoopkcaaGreat Go.ChangeShapes Go.WideShapes Go.RowKit
set_option maxRecDepth 100000
set_option pp.maxSteps 400
set_option pp.deepTerms false
set_option linter.unusedSimpArgs false
set_option linter.unusedVariables false
theorem fnLaw (l : GateLaw) (s : GateSlip) : Spec P 3 [st l.e, st s.e] (.d (.bool true)) := by
  refine Spec.of_vc vcT vcM [.tmp 4] Tryz.func3 rfl rfl rfl rfl (fun hok => ?_)
  obtain ⟨m1, h1⟩ := szGateLaw
  obtain ⟨m2, h2⟩ := szGateSlip
  repeat refine And.intro rfl ?_
  refine Or.inl (Exists.intro _ (And.intro (h1 l _) ?_))
  repeat refine And.intro rfl ?_
  refine And.intro (fun g1 => ?_) (fun g1 => ?_)
  · rfl
  · repeat refine And.intro rfl ?_
    refine Or.inl (Exists.intro _ (And.intro (h2 s _) ?_))
    repeat refine And.intro rfl ?_
    refine And.intro (fun g2 => ?_) (fun g2 => ?_)
    · rfl
    · repeat refine And.intro rfl ?_
      refine And.intro (by kernel_rfl) ?_
      repeat refine And.intro rfl ?_
      repeat refine And.intro rfl ?_
      refine Or.inl (Exists.intro _ (And.intro (to_GateLaw l) ?_))
      repeat refine And.intro rfl ?_
      refine Or.inl (Exists.intro _ (And.intro (to_GateSlip s) ?_))
      repeat refine And.intro rfl ?_
      refine Or.inl (Exists.intro _ (And.intro (s_GateSlipOk l s) ?_))
      repeat refine And.intro rfl ?_
      refine Or.inl (Exists.intro _ (And.intro (to_GateLaw l) ?_))
      repeat refine And.intro rfl ?_
      refine Or.inl (Exists.intro _ (And.intro (to_GateSlip s) ?_))
      repeat refine And.intro rfl ?_
      refine Or.inl (Exists.intro _ (And.intro (i_GateSlipOk l s) ?_))
      repeat refine And.intro rfl ?_
      refine And.intro (fun h => absurd h (by simp)) (fun _ => ?_)
      repeat refine And.intro rfl ?_
      refine And.intro (by kernel_rfl) ?_
      repeat refine And.intro rfl ?_
      repeat refine And.intro rfl ?_
      refine Or.inl (Exists.intro _ (And.intro (to_GateLaw l) ?_))
      repeat refine And.intro rfl ?_
      refine Or.inl (Exists.intro _ (And.intro (eq_GateLaw l) ?_))
      repeat refine And.intro rfl ?_
      refine And.intro (fun h => absurd h (by simp)) (fun _ => ?_)
      repeat refine And.intro rfl ?_
      refine And.intro (by kernel_rfl) ?_
      repeat refine And.intro rfl ?_
      repeat refine And.intro rfl ?_
      refine Or.inl (Exists.intro _ (And.intro (to_GateSlip s) ?_))
      repeat refine And.intro rfl ?_
      refine Or.inl (Exists.intro _ (And.intro (eq_GateSlip s) ?_))
      repeat refine And.intro rfl ?_
      refine And.intro (fun h => absurd h (by simp)) (fun _ => ?_)
      repeat refine And.intro rfl ?_
      rfl
theorem own : ownKnob Tryz.prog.godebug = none := by kernel_rfl
theorem contract (H : Type) (enc : TypeId × Value → H) (W : World) (base : Nat) (args : Array Value) (ds gs : List (DataW H)) (before : List MemPlace)
    (hval : ∀ (j : Nat) t v, Tryz.f3.params[j]? = some t → args[j]? = some v → Value.okWide Tryz.prog W .any base t v)
    (hW : DataW.Whole enc Tryz.prog Tryz.f3.params.toList Rows.fnExactGateSlipOkSpec.vars false W args.toList ds gs before) (hk : Rows.uptoSmall H (ds ++ gs) = true) :
    Calls Tryz.prog 3 args W fun e W' => ∃ v, e = .returned v ∧ Rows.fnExactGateSlipOkSpec.post enc Tryz.prog Tryz.f3 false true false false W args v W' := by
  have hW' := hW
  obtain ⟨p, q, hA0, hV, rfl, hfz, hnd⟩ := hW
  obtain ⟨rfl, rfl⟩ := trodVars_none hV
  have hA : DataW.TrodAll enc Tryz.prog W 0 (fun _ => true) true [26, 35] args.toList ds p := hA0
  have hp : Tryz.f3.params = #[26, 35] := rfl
  rw [hp] at hval
  obtain ⟨v0, vs0, d0, ds0, p0, q0, hargs, rfl, rfl, h0, r0⟩ := trodAll_cons hA
  obtain ⟨v1, vs1, d1, ds1, p1, q1, rfl, rfl, rfl, h1, r1⟩ := trodAll_cons r0
  obtain ⟨rfl, rfl, rfl⟩ := trodAll_nil r1
  obtain rfl : args = #[v0, v1] := by cases args; simp_all
  have hsmall : Rows.uptoBulk d0 + (Rows.uptoBulk d1 + 0) ≤ 1048576 := by
    have := of_decide_eq_true hk
    simpa only [List.append_nil, Rows.uptoBulkAll] using this
  obtain ⟨n0, t0⟩ := h0
  obtain ⟨n1, t1⟩ := h1
  obtain ⟨e0, g0, s0⟩ := trod_rd (P := P) (n := 12) (by kernel_rfl) t0 (by unfold big; omega)
  obtain ⟨e1, g1, s1⟩ := trod_rd (P := P) (n := 12) (by kernel_rfl) t1 (by unfold big; omega)
  obtain ⟨l, rfl⟩ := un_GateLaw s0
  obtain ⟨s, rfl⟩ := un_GateSlip s1
  have k0 := hval 0 26 v0 rfl rfl
  have k1 := hval 1 35 v1 rfl rfl
  obtain ⟨f0, hu0⟩ : ∃ fs, P.underlying 26 = some (.struct fs) := structT_of (by kernel_rfl)
  obtain ⟨f1, hu1⟩ : ∃ fs, P.underlying 35 = some (.struct fs) := structT_of (by kernel_rfl)
  obtain ⟨c0, rfl⟩ := agg_of hu0 k0
  obtain ⟨c1, rfl⟩ := agg_of hu1 k1
  have hr : Rv W (fun _ => False) (fun _ => undef) [st l.e, st s.e] [.agg c0, .agg c1] := by
    have g0 : Rd W (fun _ => False) l.e c0.toList := g0
    have g1 : Rd W (fun _ => False) s.e c1.toList := g1
    have a := Rv.ofRd (ν := fun _ => undef) g0
    have b := Rv.ofRd (ν := fun _ => undef) g1
    have := Rv.agg _ a (Rv.agg _ b .nil)
    show Rv W (fun _ => False) (fun _ => undef) [.agg (l.e.map .d), .agg (s.e.map .d)] [.agg c0, .agg c1]
    simpa using this
  refine ((fnLaw l s).2 (fun _ => False) W [.agg c0, .agg c1] (fun _ h => h.elim) hr).mono fun e W' ⟨v, he, hkp, hv⟩ => ?_
  obtain rfl := rv_bool hv
  subst he
  exact ⟨_, rfl, post_same (by kernel_rfl) (by kernel_rfl) (by kernel_rfl) (by decide) rfl rfl (show P.underlying 4 = some .bool from by kernel_rfl) hW' hkp rfl⟩
set_option maxRecDepth 100000 in
theorem lifted (os : Os) (started : os.Started) (H : Type) (enc : TypeId × Value → H) (F : Stop.Interp) :
    ReturnsInHanded {} Tryz.checked os 3 .any ((Rows.OpenSpec.upto Rows.fnExactGateSlipOkSpec).pre6 enc Tryz.prog Tryz.f3 Rows.fnExactGateSlipOkUptoRow.domain false) (((Rows.OpenSpec.upto Rows.fnExactGateSlipOkSpec).at F).post enc Tryz.prog Tryz.f3 false true false false) := by
  refine returnsInHanded_of_cond (C := Tryz.checked) (s := Rows.OpenSpec.upto Rows.fnExactGateSlipOkSpec) (k := Rows.uptoSmall) rfl own started (by kernel_rfl) Tryz.func3
    (OpenSpec.witness (enc := enc) (C := Tryz.checked) (s := Rows.OpenSpec.upto Rows.fnExactGateSlipOkSpec) (k := Rows.uptoSmall) rfl false ⟨#[], #[.agg #[.slice none 0 0, .slice none 0 0, .slice none 0 0], .agg #[.string ⟨#[]⟩, .string ⟨#[]⟩, .int .i64 0, .string ⟨#[]⟩, .string ⟨#[]⟩, .string ⟨#[]⟩, .slice none 0 0, .slice none 0 0, .int .i64 0, .string ⟨#[]⟩, .string ⟨#[]⟩, .slice none 0 0, .string ⟨#[]⟩, .string ⟨#[]⟩, .string ⟨#[]⟩, .int .i64 0, .int .i64 0, .slice none 0 0]], []⟩ 12 (by kernel_rfl) (by kernel_rfl) (by kernel_rfl)
      (x := ([.agg [.nil, .nil, .nil], .agg [.lit (.string []), .agg [.lit (.string []), .lit (.int .i64 0), .lit (.string []), .lit (.string []), .lit (.string []), .nil, .nil, .lit (.int .i64 0), .lit (.string []), .lit (.string []), .agg [.nil, .lit (.string []), .lit (.string []), .lit (.string [])], .lit (.int .i64 0)], .lit (.int .i64 0), .nil]], [], [])) (by kernel_rfl) rfl (by kernel_rfl)) ?_
  intro W base args ds gs before hval hW _ hk _
  exact contract H enc W base args ds gs before hval hW hk
theorem lawHolds : Rows.fnExactGateSlipOkUptoRow.holds Tryz.pinned (Rows.OpenSpec.upto Rows.fnExactGateSlipOkSpec) :=
  OpenClaim.holds_of_cond 3 Tryz.f3 rfl rfl rfl rfl rfl rfl rfl ⟨rfl, rfl, rfl, rfl, rfl⟩ rfl rfl rfl rfl rfl (by kernel_rfl) Tryz.func3 (by kernel_rfl)
    (of_decide_eq_true (by kernel_rfl)) (by unfold Func.isWrapper; first | (rw [if_pos (by decide +kernel)]; kernel_rfl) | (rw [if_neg (by decide +kernel)]; exact ⟨rfl, rfl⟩))
    (fun os started H enc _ F => lifted os started H enc F)
end Go.Vc
namespace Go.Proofs.YtcakciamoopkcaaGreat
/-- GateSlipOk of the program answers as the specification's. -/
theorem exactGateSlipOk : Rows.FnExactGateSlipOkUptoSaid := Go.Vc.lawHolds
end Go.Proofs.YtcakciamoopkcaaGreat
