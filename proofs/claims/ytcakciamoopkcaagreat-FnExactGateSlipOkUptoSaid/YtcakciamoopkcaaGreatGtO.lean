/- Contracts: rules, equal texts. -/
import Derived.Test.YtcakciamoopkcaaGreatGtN
namespace Go.Vc
open Go.Proofs
set_option maxRecDepth 100000
set_option pp.maxSteps 400
set_option pp.deepTerms false
set_option linter.unusedSimpArgs false
set_option linter.unusedVariables false
def lessI : Option Int → Int → Bool
  | none, _ => true
  | some q, x => !decide (q ≥ x)
def vrb : Option Int → List Int → Bool
  | _, [] => true
  | p, x :: xs => (inR x 1 5 && lessI p x) && vrb (some x) xs
def prevI (xs : List Int) : Nat → Option Int
  | 0 => none
  | j + 1 => xs[j]?
section
variable {xs : List Int} {i : Nat}
theorem vrb_step (h : i < xs.length) : vrb (prevI xs i) (xs.drop i) = ((inR xs[i] 1 5 && lessI (prevI xs i) xs[i]) && vrb (prevI xs (i + 1)) (xs.drop (i + 1))) := by
  rw [List.drop_eq_getElem_cons h]
  simp only [vrb, prevI, List.getElem?_eq_getElem h]
theorem vrb_end {p : Option Int} (h : xs.length ≤ i) : vrb p (xs.drop i) = true := by
  rw [List.drop_of_length_le h]; rfl
theorem prevI_less (h : i < xs.length) (h0 : 0 < i) : lessI (prevI xs i) xs[i] = !decide (xs[i - 1]'(by omega) ≥ xs[i]) := by
  obtain ⟨j, rfl⟩ : ∃ j, i = j + 1 := ⟨i - 1, by omega⟩
  simp only [prevI, List.getElem?_eq_getElem (show j < xs.length by omega), lessI, Nat.add_sub_cancel]
end
def ruleOk (r : GateRule) : Bool := !((r.verbs.length : Int) == 0) && (!decide ((r.prefix_.length : Int) > 16) && ((r.kind == [] || nameOk r.kind) && ((r.team == [] || nameOk r.team) && (r.prefix_.all nmByte && vrb none r.verbs))))
theorem i_equalTexts (xs ys : List Bs) : Spec P 50 [.d (lS xs), .d (lS ys)] (.d (.bool (xs == ys))) := by
  refine Spec.of_vc vcT vcM [.tmp 4] Tryz.func50 rfl rfl rfl rfl (fun hok => ?_)
  have hs : xs.length ≤ big := len_map hok.1.1
  repeat refine And.intro rfl ?_
  refine And.intro (fun h0 => ?_) (fun h0 => ?_)
  · refine bd ?_
    rw [List.length_map, List.length_map] at h0
    cases e : xs == ys with
    | false => rfl
    | true => rw [beq_iff_eq.1 e] at h0; simp at h0
  · rw [List.length_map, List.length_map] at h0
    have hl : xs.length = ys.length := by simp at h0; omega
    repeat refine And.intro rfl ?_
    refine ⟨fun m l h => ∃ (i : Nat) , m = xs.length - i ∧ i ≤ xs.length ∧ ((xs == ys) = (xs.drop i == ys.drop i)) ∧ l = [(0, .d (lS xs)), (1, .d (lS ys)), (12, .d (.int .i64 (xs.map eB).length)), (13, .d (.int .i64 i))] ∧ h = hp0,
      ⟨_, _, _, ⟨0, rfl, Nat.zero_le _, rfl, rfl, rfl⟩, rfl, rfl, ⟨rfl, rfl, rfl, rfl, trivial⟩, trivial, trivial⟩, ?_⟩
    rintro m l hh ⟨i, rfl, hi, hr, rfl, rfl⟩
    repeat refine And.intro rfl ?_
    refine And.intro (fun h1 => ?_) (fun h1 => ?_)
    · have hlt : i < xs.length := lt_map h1
      have hlt' : i < ys.length := by omega
      rw [List.drop_eq_getElem_cons hlt, List.drop_eq_getElem_cons hlt', List.cons_beq_cons] at hr
      repeat refine And.intro rfl ?_
      refine And.intro (by kernel_rfl) ?_
      repeat refine And.intro rfl ?_
      repeat refine And.intro rfl ?_
      refine ix_at (e := eB) (xs := xs) (hlt) rfl ?_
      repeat refine And.intro rfl ?_
      repeat refine And.intro rfl ?_
      refine ix_at (e := eB) (xs := ys) (hlt') rfl ?_
      repeat refine And.intro rfl ?_
      repeat refine And.intro rfl ?_
      refine And.intro (fun h2 => ?_) (fun h2 => ?_)
      · refine bd ?_
        simp only [Bool.not_eq_true', Bool.not_eq_false'] at h2
        rw [hr, h2]; rfl
      · simp only [Bool.not_eq_true', Bool.not_eq_false'] at h2
        repeat refine And.intro rfl ?_
        exact ⟨_, _, _, ⟨i + 1, rfl, hlt, by rw [hr, h2]; rfl, rfl, rfl⟩, by omega, rfl, rfl, ⟨rfl, rfl, rfl, nd (wrap_succ hlt hs), trivial⟩, trivial, trivial⟩
    · refine bd ?_
      have hge := ge_map h1
      rw [hr, List.drop_of_length_le hge, List.drop_of_length_le (by omega)]; rfl
theorem i_sameRule (a b : GateRule) : Spec P 51 [st a.e, st b.e] (.d (.bool (a.verbs == b.verbs && (a.kind == b.kind && (a.team == b.team && a.prefix_ == b.prefix_))))) := by
  refine Spec.of_vc vcT vcM [.tmp 4] Tryz.func51 rfl rfl rfl rfl (fun hok => ?_)
  have hs : a.verbs.length ≤ big := by
    have := hok.1
    simp only [st, AV.ok, GateRule.e, List.map, okAs] at this
    exact len_map this.1.1
  repeat refine And.intro rfl ?_
  refine And.intro (fun h0 => ?_) (fun h0 => ?_)
  · simp only [List.length_map] at h0
    have hl : a.verbs.length = b.verbs.length := by simp at h0; omega
    repeat refine And.intro rfl ?_
    refine And.intro (fun h1 => ?_) (fun h1 => ?_)
    · repeat refine And.intro rfl ?_
      refine And.intro (fun h2 => ?_) (fun h2 => ?_)
      · repeat refine And.intro rfl ?_
        refine And.intro (fun h3 => ?_) (fun h3 => ?_)
        · refine bd ?_
          simp only [Bool.not_eq_true', Bool.not_eq_false'] at h1 h2 h3
          rw [h1, h2, h3]; simp only [Bool.and_false]
        · simp only [Bool.not_eq_true', Bool.not_eq_false'] at h1 h2 h3
          rw [h1, h2, h3, Bool.true_and, Bool.true_and, Bool.and_true]
          repeat refine And.intro rfl ?_
          refine ⟨fun m l h => ∃ (i : Nat) , m = a.verbs.length - i ∧ i ≤ a.verbs.length ∧ ((a.verbs == b.verbs) = (a.verbs.drop i == b.verbs.drop i)) ∧ l = [(2, .ptr 0 0), (3, .ptr 1 0), (36, .d (.int .i64 (a.verbs.map eN).length)), (37, .d (.int .i64 i))] ∧ h = ⟨[(1, .cells 45 (b.e.map .d)), (0, .cells 45 (a.e.map .d))], 2, 0⟩,
            ⟨_, _, _, ⟨0, rfl, Nat.zero_le _, rfl, rfl, rfl⟩, rfl, rfl, ⟨rfl, rfl, rfl, rfl, trivial⟩, ⟨rfl, rfl, trivial⟩, ⟨rfl, rfl, trivial⟩⟩, ?_⟩
          rintro m l hh ⟨i, rfl, hi, hr, rfl, rfl⟩
          repeat refine And.intro rfl ?_
          refine And.intro (fun h4 => ?_) (fun h4 => ?_)
          · have hlt : i < a.verbs.length := lt_map h4
            have hlt' : i < b.verbs.length := by omega
            rw [List.drop_eq_getElem_cons hlt, List.drop_eq_getElem_cons hlt', List.cons_beq_cons] at hr
            repeat refine And.intro rfl ?_
            refine And.intro (by kernel_rfl) ?_
            repeat refine And.intro rfl ?_
            repeat refine And.intro rfl ?_
            refine ix_at (e := eN) (xs := a.verbs) (hlt) rfl ?_
            repeat refine And.intro rfl ?_
            repeat refine And.intro rfl ?_
            refine ix_at (e := eN) (xs := b.verbs) (hlt') rfl ?_
            repeat refine And.intro rfl ?_
            repeat refine And.intro rfl ?_
            refine And.intro (fun h5 => ?_) (fun h5 => ?_)
            · refine bd ?_
              simp only [bne, Bool.not_eq_true', Bool.not_eq_false'] at h5
              rw [hr, h5]; rfl
            · simp only [bne, Bool.not_eq_true', Bool.not_eq_false'] at h5
              repeat refine And.intro rfl ?_
              exact ⟨_, _, _, ⟨i + 1, rfl, hlt, by rw [hr, h5]; rfl, rfl, rfl⟩, by omega, rfl, rfl, ⟨rfl, rfl, rfl, nd (wrap_succ hlt hs), trivial⟩, ⟨rfl, rfl, trivial⟩, ⟨rfl, rfl, trivial⟩⟩
          · refine bd ?_
            have hge := ge_map h4
            rw [hr, List.drop_of_length_le hge, List.drop_of_length_le (by omega)]; rfl
      · refine bd ?_
        simp only [Bool.not_eq_true', Bool.not_eq_false'] at h1 h2
        rw [h1, h2]; simp only [Bool.and_false, Bool.false_and]
    · refine bd ?_
      simp only [Bool.not_eq_true', Bool.not_eq_false'] at h1
      rw [h1]; simp only [Bool.and_false, Bool.false_and]
  · refine bd ?_
    simp only [List.length_map] at h0
    cases e : a.verbs == b.verbs with
    | false => rfl
    | true => rw [beq_iff_eq.1 e] at h0; simp at h0
end Go.Vc
