/- FnExactGateSafe, where what it reads is of bulk at most 1048576: it returns true, and its arguments read as they did. -/
import Derived.Test.YtpcmdecphigjaaaGreatDoorSaa
import Derived.Test.YtpcmdecphigjaaaGreatDoorSab
import Derived.Test.YtpcmdecphigjaaaGreatDoorSac
import Derived.Test.YtpcmdecphigjaaaGreatDoorSad
import Derived.Test.YtpcmdecphigjaaaGreatDoorSae
import Derived.Test.YtpcmdecphigjaaaGreatDoorSaf
import Derived.Test.YtpcmdecphigjaaaGreatDoorSag
import Derived.Test.YtpcmdecphigjaaaGreatDoorSah
import Derived.Test.YtpcmdecphigjaaaGreatDoorSai
import Derived.Test.YtpcmdecphigjaaaGreatDoorSaj
import Derived.Test.YtpcmdecphigjaaaGreatDoorSak
import Derived.SevenTiedAt
section
namespace Go.Vc
open Go.Proofs Go.Proofs.YtpcmdecphigjaaaGreatDoor Go.ChangeShapes Go.WideShapes Go.RowKit
set_option maxRecDepth 100000
set_option pp.maxSteps 400
set_option pp.deepTerms false
set_option linter.unusedSimpArgs false
set_option linter.unusedVariables false
theorem fnLaw (L : GateLaw) (b : GateBook) (w : GateWorld) : Spec P 5 [st L.e, st b.e, st w.e] (.d (.bool true)) := by
  refine Spec.of_vc vcT vcM [.tmp 6] Tryz.func5 rfl rfl rfl rfl (fun hok => ?_)
  obtain ⟨m0, h0⟩ := szGateLaw
  obtain ⟨m1, h1⟩ := szGateBook
  obtain ⟨m2, h2⟩ := szGateWorld
  repeat refine And.intro rfl ?_
  refine Or.inl (Exists.intro _ (And.intro (h0 L _) ?_))
  repeat refine And.intro rfl ?_
  refine And.intro (fun g0 => ?_) (fun g0 => ?_)
  · rfl
  repeat refine And.intro rfl ?_
  refine Or.inl (Exists.intro _ (And.intro (h1 b _) ?_))
  repeat refine And.intro rfl ?_
  refine And.intro (fun g1 => ?_) (fun g1 => ?_)
  · rfl
  repeat refine And.intro rfl ?_
  refine Or.inl (Exists.intro _ (And.intro (h2 w _) ?_))
  repeat refine And.intro rfl ?_
  refine And.intro (fun g2 => ?_) (fun g2 => ?_)
  · rfl
  repeat refine And.intro rfl ?_
  refine And.intro (by kernel_rfl) ?_
  repeat refine And.intro rfl ?_
  repeat refine And.intro rfl ?_
  refine Or.inl (Exists.intro _ (And.intro (to_GateLaw L) ?_))
  repeat refine And.intro rfl ?_
  refine Or.inl (Exists.intro _ (And.intro (to_GateBook b) ?_))
  repeat refine And.intro rfl ?_
  refine Or.inl (Exists.intro _ (And.intro (to_GateWorld w) ?_))
  repeat refine And.intro rfl ?_
  refine Or.inl (Exists.intro _ (And.intro (s_GateSafe L b w) ?_))
  repeat refine And.intro rfl ?_
  refine Or.inl (Exists.intro _ (And.intro (to_GateLaw L) ?_))
  repeat refine And.intro rfl ?_
  refine Or.inl (Exists.intro _ (And.intro (to_GateBook b) ?_))
  repeat refine And.intro rfl ?_
  refine Or.inl (Exists.intro _ (And.intro (to_GateWorld w) ?_))
  repeat refine And.intro rfl ?_
  refine Or.inl (Exists.intro _ (And.intro (i_GateSafe L b w) ?_))
  repeat refine And.intro rfl ?_
  refine And.intro (fun h => absurd h (by simp)) (fun _ => ?_)
  repeat refine And.intro rfl ?_
  refine And.intro (by kernel_rfl) ?_
  repeat refine And.intro rfl ?_
  repeat refine And.intro rfl ?_
  refine Or.inl (Exists.intro _ (And.intro (to_GateLaw L) ?_))
  repeat refine And.intro rfl ?_
  refine Or.inl (Exists.intro _ (And.intro (eq_GateLaw L) ?_))
  repeat refine And.intro rfl ?_
  refine And.intro (fun h => absurd h (by simp)) (fun _ => ?_)
  repeat refine And.intro rfl ?_
  refine And.intro (by kernel_rfl) ?_
  repeat refine And.intro rfl ?_
  repeat refine And.intro rfl ?_
  refine Or.inl (Exists.intro _ (And.intro (to_GateBook b) ?_))
  repeat refine And.intro rfl ?_
  refine Or.inl (Exists.intro _ (And.intro (eq_GateBook b) ?_))
  repeat refine And.intro rfl ?_
  refine And.intro (fun h => absurd h (by simp)) (fun _ => ?_)
  repeat refine And.intro rfl ?_
  refine And.intro (by kernel_rfl) ?_
  repeat refine And.intro rfl ?_
  repeat refine And.intro rfl ?_
  refine Or.inl (Exists.intro _ (And.intro (to_GateWorld w) ?_))
  repeat refine And.intro rfl ?_
  refine Or.inl (Exists.intro _ (And.intro (eq_GateWorld w) ?_))
  repeat refine And.intro rfl ?_
  refine And.intro (fun h => absurd h (by simp)) (fun _ => ?_)
  repeat refine And.intro rfl ?_
  rfl
theorem contract (H : Type) (enc : TypeId × Value → H) (W : World) (base : Nat) (args : Array Value) (ds gs : List (DataW H)) (before : List MemPlace)
    (hval : ∀ (j : Nat) t v, Tryz.f5.params[j]? = some t → args[j]? = some v → Value.okWide Tryz.prog W .any base t v)
    (hW : DataW.Whole enc Tryz.prog Tryz.f5.params.toList Rows.fnExactGateSafeSpec.vars false W args.toList ds gs before) (hk : Rows.uptoSmall H (ds ++ gs) = true) (hL : laidMetH Tryz.prog laidE W) :
    Calls Tryz.prog 5 args W fun e W' => ∃ v, e = .returned v ∧ Rows.fnExactGateSafeSpec.post enc Tryz.prog Tryz.f5 false true false false W args v W' := by
  have hW' := hW
  obtain ⟨p, q, hA0, hV, rfl, hfz, hnd⟩ := hW
  obtain ⟨rfl, rfl⟩ := trodVars_none hV
  have hA : DataW.TrodAll enc Tryz.prog W 0 (fun _ => true) true [26, 32, 59] args.toList ds p := hA0
  have hp : Tryz.f5.params = #[26, 32, 59] := rfl
  rw [hp] at hval
  obtain ⟨v0, vs0, d0, ds0, p0, q0, hargs, rfl, rfl, h0, r0⟩ := trodAll_cons hA
  obtain ⟨v1, vs1, d1, ds1, p1, q1, rfl, rfl, rfl, h1, r1⟩ := trodAll_cons r0
  obtain ⟨v2, vs2, d2, ds2, p2, q2, rfl, rfl, rfl, h2, r2⟩ := trodAll_cons r1
  obtain ⟨rfl, rfl, rfl⟩ := trodAll_nil r2
  obtain rfl : args = #[v0, v1, v2] := by cases args; simp_all
  have hsmall : Rows.uptoBulk d0 + (Rows.uptoBulk d1 + (Rows.uptoBulk d2 + 0)) ≤ 1048576 := by
    have := of_decide_eq_true hk
    simpa only [List.append_nil, Rows.uptoBulkAll] using this
  obtain ⟨n0, t0⟩ := h0
  obtain ⟨n1, t1⟩ := h1
  obtain ⟨n2, t2⟩ := h2
  obtain ⟨e0, g0, s0⟩ := trod_rd (P := P) (n := 12) (by kernel_rfl) t0 (by unfold big; omega)
  obtain ⟨e1, g1, s1⟩ := trod_rd (P := P) (n := 12) (by kernel_rfl) t1 (by unfold big; omega)
  obtain ⟨e2, g2, s2⟩ := trod_rd (P := P) (n := 12) (by kernel_rfl) t2 (by unfold big; omega)
  have lg := lg_of_laid hL
  replace g0 := Rd.beside lg.ifc g0 (shape_pl s0)
  replace g1 := Rd.beside lg.ifc g1 (shape_pl s1)
  replace g2 := Rd.beside lg.ifc g2 (shape_pl s2)
  obtain ⟨L, rfl⟩ := un_GateLaw s0
  obtain ⟨b, rfl⟩ := un_GateBook s1
  obtain ⟨w, rfl⟩ := un_GateWorld s2
  have k0 := hval 0 26 v0 rfl rfl
  have k1 := hval 1 32 v1 rfl rfl
  have k2 := hval 2 59 v2 rfl rfl
  obtain ⟨f0, hu0⟩ : ∃ fs, P.underlying 26 = some (.struct fs) := structT_of (by kernel_rfl)
  obtain ⟨c0, rfl⟩ := agg_of hu0 k0
  obtain ⟨f1, hu1⟩ : ∃ fs, P.underlying 32 = some (.struct fs) := structT_of (by kernel_rfl)
  obtain ⟨c1, rfl⟩ := agg_of hu1 k1
  obtain ⟨f2, hu2⟩ : ∃ fs, P.underlying 59 = some (.struct fs) := structT_of (by kernel_rfl)
  obtain ⟨c2, rfl⟩ := agg_of hu2 k2
  have hr : Rv W lgN (fun _ => undef) [st L.e, st b.e, st w.e] [.agg c0, .agg c1, .agg c2] := by
    have g0 : Rd W lgN L.e c0.toList := g0
    have g1 : Rd W lgN b.e c1.toList := g1
    have g2 : Rd W lgN w.e c2.toList := g2
    have a0 := Rv.ofRd (ν := fun _ => undef) g0
    have a1 := Rv.ofRd (ν := fun _ => undef) g1
    have a2 := Rv.ofRd (ν := fun _ => undef) g2
    have := Rv.agg _ a0 (Rv.agg _ a1 (Rv.agg _ a2 .nil))
    show Rv W lgN (fun _ => undef) [.agg (L.e.map .d), .agg (b.e.map .d), .agg (w.e.map .d)] [.agg c0, .agg c1, .agg c2]
    simpa using this
  refine ((fnLaw L b w).2 lgN W [.agg c0, .agg c1, .agg c2] lg.bnd lg.lw hr).mono fun e W' ⟨v, he, hkp, hv⟩ => ?_
  obtain rfl := rv_bool hv
  subst he
  exact ⟨_, rfl, post_same (by kernel_rfl) (by kernel_rfl) (by kernel_rfl) (by decide) rfl rfl (show P.underlying 4 = some .bool from by kernel_rfl) hW' hkp rfl⟩
theorem reads (os : Os) {H : Type} (enc : TypeId × Value → H) : ∃ places, DataW.whole enc Tryz.prog ((laidWorld os).forCall (fun _ _ => 0) ⟨#[], #[.agg #[.slice none 0 0, .slice none 0 0, .slice none 0 0], .agg #[.int .i64 0, .int .i64 0, .int .i64 0, .slice none 0 0, .slice none 0 0, .slice none 0 0, .slice none 0 0], .agg #[.int .i64 0, .int .i64 0, .int .i64 0, .slice none 0 0, .slice none 0 0, .slice none 0 0, .slice none 0 0, .slice none 0 0]], []⟩).memory Tryz.f5.params.toList Rows.fnExactGateSafeSpec.vars false (#[.agg #[.slice none 0 0, .slice none 0 0, .slice none 0 0], .agg #[.int .i64 0, .int .i64 0, .int .i64 0, .slice none 0 0, .slice none 0 0, .slice none 0 0, .slice none 0 0], .agg #[.int .i64 0, .int .i64 0, .int .i64 0, .slice none 0 0, .slice none 0 0, .slice none 0 0, .slice none 0 0, .slice none 0 0]] : Array Value).toList 12 = some ([.agg [.nil, .nil, .nil], .agg [.lit (.int .i64 0), .lit (.int .i64 0), .lit (.int .i64 0), .nil, .nil, .nil, .nil], .agg [.agg [.lit (.int .i64 0), .lit (.int .i64 0), .lit (.int .i64 0), .nil, .nil, .nil, .nil], .nil]], [], places) :=
  ⟨[], by kernel_rfl⟩
theorem lifted (os : Os) (started : os.Started) (H : Type) (enc : TypeId × Value → H) (F : Stop.Interp) :
    ReturnsInHanded {} Tryz.checked os 5 .any ((Rows.OpenSpec.upto Rows.fnExactGateSafeSpec).preRow enc Tryz.prog Tryz.f5 Rows.fnExactGateSafeUptoRow.domain false Rows.fnExactGateSafeUptoRow.laid) (((Rows.OpenSpec.upto Rows.fnExactGateSafeSpec).at F).post enc Tryz.prog Tryz.f5 false true false false) := by
  obtain ⟨places, hx⟩ := reads os enc
  refine returnsInHanded_of_row (C := Tryz.checked) (s := Rows.OpenSpec.upto Rows.fnExactGateSafeSpec) own started (by kernel_rfl) Tryz.func5
    (witness_row_at (enc := enc) (C := Tryz.checked) false (laidWorld os) #[.agg #[.slice none 0 0, .slice none 0 0, .slice none 0 0], .agg #[.int .i64 0, .int .i64 0, .int .i64 0, .slice none 0 0, .slice none 0 0, .slice none 0 0, .slice none 0 0], .agg #[.int .i64 0, .int .i64 0, .int .i64 0, .slice none 0 0, .slice none 0 0, .slice none 0 0, .slice none 0 0, .slice none 0 0]] rfl (by kernel_rfl) (by kernel_rfl) (by kernel_rfl)
      (OpenSpec.preRow_of_cond 12 hx (by kernel_rfl) (fun k hk => by cases hk; kernel_rfl) (by kernel_rfl) (laid_met os _))) ?_
  intro W base args ds gs before hval hW _ hcond _ hL _ _
  exact contract H enc W base args ds gs before hval hW (hcond _ rfl) hL
theorem fact1 : (Rows.fnExactGateSafeUptoRow.inPlace == Tryz.pinned.checked.prog.inPlace 5) = true := by kernel_rfl
theorem fact2 : (Rows.fnExactGateSafeUptoRow.unfollowed == Tryz.pinned.checked.prog.unfollowed 5) = true := by kernel_rfl
theorem fact3 : (Rows.fnExactGateSafeUptoRow.recurses == Tryz.pinned.checked.prog.recurses 5) = true := by kernel_rfl
theorem fact4 : (Rows.fnExactGateSafeUptoRow.named == Tryz.pinned.checked.prog.varsNamed 5) = true := by kernel_rfl
theorem facts : joinedFacts Tryz.pinned.checked.prog 5 Tryz.f5 (Rows.OpenSpec.upto Rows.fnExactGateSafeSpec).bare Rows.fnExactGateSafeUptoRow = true := by
  unfold joinedFacts
  rw [fact1, fact2, fact3, fact4]
  kernel_rfl
theorem wraps : Tryz.f5.isWrapper Tryz.pinned.checked.prog Rows.fnExactGateSafeUptoRow.wrapper Rows.fnExactGateSafeUptoRow.mainSum := by
  unfold Func.isWrapper
  first | (rw [if_pos (by decide +kernel)]; kernel_rfl) | (rw [if_neg (by decide +kernel)]; exact ⟨rfl, rfl⟩)
theorem lawHolds : Rows.fnExactGateSafeUptoRow.holds Tryz.pinned (Rows.OpenSpec.upto Rows.fnExactGateSafeSpec) :=
  OpenClaim.holds_of_cond 5 Tryz.f5 rfl rfl rfl rfl rfl rfl rfl ⟨rfl, rfl, rfl, rfl, rfl⟩ rfl rfl rfl rfl rfl (by kernel_rfl) Tryz.func5 facts
    (of_decide_eq_true (by kernel_rfl)) wraps
    (fun os started H enc _ F => by rw [OpenClaim.pre_eq_preRow]; exact lifted os started H enc F)
theorem noStandIn : ∀ t ∈ Tryz.f5.params.toList, Tryz.prog.wantsStandIn t = false := by
  have h : Tryz.f5.params.toList.all (fun t => !Tryz.prog.wantsStandIn t) = true := by kernel_rfl
  intro t ht
  have := List.all_eq_true.1 h t ht
  simpa using this
theorem plainLooks (f : FuncId) (fn : Func) (hf : Tryz.pinned.checked.prog.funcNamed "loop.example/wharfhall/laws.FnExactGateSafe" = some f) (hfn : Tryz.pinned.checked.prog.funcs[f]? = some fn) :
    true = Tryz.pinned.checked.prog.looks [] ∧ ∀ (j : Nat) t, fn.params[j]? = some t → Tryz.pinned.checked.prog.wantsStandIn t = false := by
  obtain rfl : f = 5 := Option.some.inj ((show Tryz.prog.funcNamed "loop.example/wharfhall/laws.FnExactGateSafe" = some 5 by kernel_rfl).symm.trans hf) |>.symm
  obtain rfl : fn = Tryz.f5 := (Option.some.inj (Tryz.func5.symm.trans hfn)).symm
  exact ⟨by kernel_rfl, fun j t ht => noStandIn t (by simpa using Array.mem_of_getElem? ht)⟩
theorem cardHolds : Rows.FnExactGateSafeUptoCardSaid :=
  Claim7.holds_tied_plain_at .later [] _ _ _ _ lawHolds (fun _ h => by cases h) (by kernel_rfl) (fun _ h => by cases h) fnExactGateSafeUpto_row_tie rfl ⟨rfl, rfl⟩ (by kernel_rfl) rfl plainLooks (by kernel_rfl)
end Go.Vc
namespace Go.Proofs.YtpcmdecphigjaaaGreatDoor
/-- GateSafe of the program answers as the specification's. -/
theorem exactGateSafe : Rows.FnExactGateSafeUptoCardSaid := Go.Vc.cardHolds
end Go.Proofs.YtpcmdecphigjaaaGreatDoor
end
