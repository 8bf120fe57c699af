/- Contracts: fields that fit, shapes. -/
import Derived.Test.YtcakciamoopkcaaGreatGtE
namespace Go.Vc
open Go.Proofs
set_option maxRecDepth 100000
set_option pp.maxSteps 400
set_option pp.deepTerms false
set_option linter.unusedSimpArgs false
set_option linter.unusedVariables false
theorem i_mk1 (f : GateField) : Spec P 104 [st f.e] (.iface 165 (st f.e)) := by
  refine Spec.of_vc vcT vcM [.tmp 2] Tryz.func104 rfl rfl rfl rfl (fun hok => ?_)
  rfl
theorem i_mk2 (f : GateField) : Spec P 105 [st f.e] (.iface 167 (st f.e)) := by
  refine Spec.of_vc vcT vcM [.tmp 2] Tryz.func105 rfl rfl rfl rfl (fun hok => ?_)
  rfl
theorem i_mk3 (f : GateField) : Spec P 106 [st f.e] (.iface 168 (st f.e)) := by
  refine Spec.of_vc vcT vcM [.tmp 2] Tryz.func106 rfl rfl rfl rfl (fun hok => ?_)
  rfl
theorem i_mk4 (f : GateField) : Spec P 107 [st f.e] (.iface 169 (st f.e)) := by
  refine Spec.of_vc vcT vcM [.tmp 2] Tryz.func107 rfl rfl rfl rfl (fun hok => ?_)
  rfl
theorem i_sortOf1 (f : GateField) (h : f.kind = 1) : Spec P 102 [st f.e] (.tup [.iface 165 (st f.e), .d (.bool true)]) := by
  refine Spec.of_vc vcT vcM [.tmp 2, .tmp 3] Tryz.func102 rfl rfl rfl rfl (fun hok => ?_)
  repeat refine And.intro rfl ?_
  refine ⟨_, (by rw [h]), ?_⟩
  repeat refine And.intro rfl ?_
  refine Or.inl (Exists.intro _ (And.intro (i_mk1 f) ?_))
  rfl
theorem i_sortOf2 (f : GateField) (h : f.kind = 2) : Spec P 102 [st f.e] (.tup [.iface 167 (st f.e), .d (.bool true)]) := by
  refine Spec.of_vc vcT vcM [.tmp 2, .tmp 3] Tryz.func102 rfl rfl rfl rfl (fun hok => ?_)
  repeat refine And.intro rfl ?_
  refine ⟨_, (by rw [h]), ?_⟩
  repeat refine And.intro rfl ?_
  refine Or.inl (Exists.intro _ (And.intro (i_mk2 f) ?_))
  rfl
theorem i_sortOf3 (f : GateField) (h : f.kind = 3) : Spec P 102 [st f.e] (.tup [.iface 168 (st f.e), .d (.bool true)]) := by
  refine Spec.of_vc vcT vcM [.tmp 2, .tmp 3] Tryz.func102 rfl rfl rfl rfl (fun hok => ?_)
  repeat refine And.intro rfl ?_
  refine ⟨_, (by rw [h]), ?_⟩
  repeat refine And.intro rfl ?_
  refine Or.inl (Exists.intro _ (And.intro (i_mk3 f) ?_))
  rfl
theorem i_sortOf4 (f : GateField) (h : f.kind = 4) : Spec P 102 [st f.e] (.tup [.iface 169 (st f.e), .d (.bool true)]) := by
  refine Spec.of_vc vcT vcM [.tmp 2, .tmp 3] Tryz.func102 rfl rfl rfl rfl (fun hok => ?_)
  repeat refine And.intro rfl ?_
  refine ⟨_, (by rw [h]), ?_⟩
  repeat refine And.intro rfl ?_
  refine Or.inl (Exists.intro _ (And.intro (i_mk4 f) ?_))
  rfl
theorem sort_none {k : Int} {a b c d : AV} (h1 : (k == 1) = false) (h2 : (k == 2) = false) (h3 : (k == 3) = false) (h4 : (k == 4) = false) :
    mapLook [([D.int .i64 1], a), ([D.int .i64 2], b), ([D.int .i64 3], c), ([D.int .i64 4], d)] [D.int .i64 k] = none := by
  have e : ∀ j : Int, (k == j) = (j == k) := fun j => by rw [Bool.eq_iff_iff, beq_iff_eq, beq_iff_eq]; exact eq_comm
  rw [e] at h1 h2 h3 h4
  simp only [mapLook, keyEq, kindEq, e, h1, h2, h3, h4, Bool.and_false]
theorem i_sortOf0 (f : GateField) (h1 : (f.kind == 1) = false) (h2 : (f.kind == 2) = false) (h3 : (f.kind == 3) = false) (h4 : (f.kind == 4) = false) : Spec P 102 [st f.e] (.tup [.val .nilIface, .d (.bool false)]) := by
  refine Spec.of_vc vcT vcM [.tmp 2, .tmp 3] Tryz.func102 rfl rfl rfl rfl (fun hok => ?_)
  repeat refine And.intro rfl ?_
  refine ⟨_, sort_none h1 h2 h3 h4, ?_⟩
  rfl
theorem kind_is {k : Int} (j : Int) (h : (k == j) = true) : k = j := by simpa using h
theorem i_GateFits (f : GateField) (v : Bs) : Spec P 99 [st f.e, .d (.str v)] (.d (.bool (fitsF f v))) := by
  refine Spec.of_vc vcT vcM [.tmp 4] Tryz.func99 rfl rfl rfl rfl (fun hok => ?_)
  cases h1 : f.kind == 1
  · cases h2 : f.kind == 2
    · cases h3 : f.kind == 3
      · cases h4 : f.kind == 4
        · repeat refine And.intro rfl ?_
          refine Or.inl (Exists.intro _ (And.intro (i_sortOf0 f h1 h2 h3 h4) ?_))
          repeat refine And.intro rfl ?_
          refine And.intro (fun h => absurd h (by simp)) (fun _ => ?_)
          refine bd ?_
          simp only [fitsF, h1, h2, h3, h4, cond_false]
        · repeat refine And.intro rfl ?_
          refine Or.inl (Exists.intro _ (And.intro (i_sortOf4 f (kind_is 4 h4)) ?_))
          repeat refine And.intro rfl ?_
          refine And.intro (fun _ => ?_) (fun h => absurd h (by simp))
          repeat refine And.intro rfl ?_
          refine And.intro (fun hv => ?_) (fun hv => ?_)
          · repeat refine And.intro rfl ?_
            refine Or.inl (Exists.intro _ (And.intro (i_lFits f v) ?_))
            refine bd ?_
            simp only [fitsF, h1, h2, h3, h4, cond_true, cond_false]
          · refine bd ?_
            have hv' : v = [] := by simpa using hv
            subst hv'
            simp only [fitsF, h1, h2, h3, h4, cond_true, cond_false];rfl
      · repeat refine And.intro rfl ?_
        refine Or.inl (Exists.intro _ (And.intro (i_sortOf3 f (kind_is 3 h3)) ?_))
        repeat refine And.intro rfl ?_
        refine And.intro (fun _ => ?_) (fun h => absurd h (by simp))
        repeat refine And.intro rfl ?_
        refine And.intro (fun hv => ?_) (fun hv => ?_)
        · repeat refine And.intro rfl ?_
          refine Or.inl (Exists.intro _ (And.intro (i_tFits f v) ?_))
          refine bd ?_
          exact fit3 h1 h2 h3 hv
        · refine bd ?_
          have hv' : v = [] := by simpa using hv
          subst hv'
          simp only [fitsF, h1, h2, h3, cond_true, cond_false];rfl
    · repeat refine And.intro rfl ?_
      refine Or.inl (Exists.intro _ (And.intro (i_sortOf2 f (kind_is 2 h2)) ?_))
      repeat refine And.intro rfl ?_
      refine And.intro (fun _ => ?_) (fun h => absurd h (by simp))
      repeat refine And.intro rfl ?_
      refine And.intro (fun hv => ?_) (fun hv => ?_)
      · repeat refine And.intro rfl ?_
        refine Or.inl (Exists.intro _ (And.intro (i_wFits f v) ?_))
        refine bd ?_
        simp only [fitsF, h1, h2, hv, cond_true, cond_false, Bool.true_and]
      · refine bd ?_
        have hv' : v = [] := by simpa using hv
        subst hv'
        simp only [fitsF, h1, h2, cond_true, cond_false];rfl
  · repeat refine And.intro rfl ?_
    refine Or.inl (Exists.intro _ (And.intro (i_sortOf1 f (kind_is 1 h1)) ?_))
    repeat refine And.intro rfl ?_
    refine And.intro (fun _ => ?_) (fun h => absurd h (by simp))
    repeat refine And.intro rfl ?_
    refine And.intro (fun hv => ?_) (fun hv => ?_)
    · repeat refine And.intro rfl ?_
      refine Or.inl (Exists.intro _ (And.intro (i_nFits f v) ?_))
      refine bd ?_
      simp only [fitsF, h1, cond_true];rfl
    · refine bd ?_
      have hv' : v = [] := by simpa using hv
      subst hv'
      simp only [fitsF, h1, cond_true];rfl
end Go.Vc
