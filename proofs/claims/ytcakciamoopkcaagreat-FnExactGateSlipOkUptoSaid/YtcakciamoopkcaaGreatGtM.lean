/- Contracts: GateTeamsOk. -/
import Derived.Test.YtcakciamoopkcaaGreatGtL
namespace Go.Vc
open Go.Proofs
set_option maxRecDepth 100000
set_option pp.maxSteps 400
set_option pp.deepTerms false
set_option linter.unusedSimpArgs false
set_option linter.unusedVariables false
def overOk (xs : List GateTeam) (t : GateTeam) : Bool := t.over == [] || xs.any (·.name == t.over)
theorem idx_lt {α : Type} {p : α → Bool} {xs : List α} : decide (idx p xs < 0) = !xs.any p := by
  rw [← idx_any]
  by_cases h : idx p xs ≥ 0
  · rw [decide_eq_true h, decide_eq_false (by omega)]; rfl
  · rw [decide_eq_false h, decide_eq_true (by omega)]; rfl
theorem i_GateTeamsOk (xs : List GateTeam) : Spec P 76 [.d (lGateTeam xs)] (.d (.bool (teamsOk xs))) := by
  refine Spec.of_vc vcT vcM [.tmp 2] Tryz.func76 rfl rfl rfl rfl (fun hok => ?_)
  have hs : xs.length ≤ big := len_map hok.1.1
  repeat refine And.intro rfl ?_
  refine And.intro (fun h0 => ?_) (fun h0 => ?_)
  · refine bd ?_
    rw [List.length_map] at h0
    simp only [teamsOk, h0]; rfl
  rw [List.length_map] at h0
  have e : teamsOk xs = ((ascK (·.name) none xs && xs.all (overOk xs)) && xs.all (fun t => upN xs 4 t.over == [])) := by simp only [teamsOk, h0]; rfl
  rw [e]
  repeat refine And.intro rfl ?_
  refine ⟨fun m l h => ∃ (i : Nat) , m = xs.length - i ∧ i ≤ xs.length ∧ ((ascK (·.name) none xs && xs.all (overOk xs)) = (ascK (·.name) (prevK (·.name) xs i) (xs.drop i) && (xs.drop i).all (overOk xs))) ∧ l = [(0, .d (lGateTeam xs)), (12, .d (lGateTeam xs)), (13, .d (.int .i64 (xs.map GateTeam.e).length)), (14, .d (.int .i64 i))] ∧ h = hp0,
    ⟨_, _, _, ⟨0, rfl, Nat.zero_le _, rfl, rfl, rfl⟩, rfl, rfl, ⟨rfl, rfl, rfl, rfl, trivial⟩, trivial, trivial⟩, ?_⟩
  rintro m l hh ⟨i, rfl, hi, hr, rfl, rfl⟩
  repeat refine And.intro rfl ?_
  refine And.intro (fun h1 => ?_) (fun h1 => ?_)
  · have hlt : i < xs.length := lt_map h1
    repeat refine And.intro rfl ?_
    refine ix_at (e := GateTeam.e) (xs := xs) (hlt) rfl ?_
    repeat refine And.intro rfl ?_
    repeat refine And.intro rfl ?_
    refine And.intro (by kernel_rfl) ?_
    repeat refine And.intro rfl ?_
    repeat refine And.intro rfl ?_
    refine Or.inl (Exists.intro _ (And.intro (i_isName _) ?_))
    repeat refine And.intro rfl ?_
    refine And.intro (fun h2 => ?_) (fun h2 => ?_)
    · repeat refine And.intro rfl ?_
      refine And.intro (fun h3 => ?_) (fun h3 => ?_)
      · have h0' := gt0 h3
        repeat refine And.intro rfl ?_
        refine ix_atw (e := GateTeam.e) (xs := xs) ((show i - 1 < xs.length by omega)) (wrap_pred h0' hlt hs) rfl ?_
        repeat refine And.intro rfl ?_
        repeat refine And.intro rfl ?_
        refine And.intro (fun h4 => ?_) (fun h4 => ?_)
        · have ha := asc_ok (key := fun s : GateTeam => s.name) hlt h2 (.inr ⟨h0', h4⟩)
          repeat refine And.intro rfl ?_
          refine And.intro (fun h5 => ?_) (fun h5 => ?_)
          · repeat refine And.intro rfl ?_
            refine Or.inl (Exists.intro _ (And.intro (i_teamOf xs (xs[i]'hlt).over) ?_))
            repeat refine And.intro rfl ?_
            refine And.intro (fun h6 => ?_) (fun h6 => ?_)
            · refine bd ?_
              rw [idx_lt] at h6
              simp only [Bool.not_eq_true', Bool.not_eq_false', cond_true, cond_false] at h5 h6
              rw [hr, all_step hlt, show overOk xs (xs[i]'hlt) = false from by simp only [overOk, h5, h6, Bool.or_false]]
              simp only [Bool.false_and, Bool.and_false]
            · rw [idx_lt] at h6
              simp only [Bool.not_eq_true', Bool.not_eq_false', cond_true, cond_false] at h5 h6
              repeat refine And.intro rfl ?_
              exact ⟨_, _, _, ⟨i + 1, rfl, hlt, by rw [hr, ha, all_step hlt, show overOk xs (xs[i]'hlt) = true from by simp only [overOk, h5, h6, Bool.false_or]]; rfl, rfl, rfl⟩, by omega, rfl, rfl, ⟨rfl, rfl, rfl, nd (wrap_succ hlt hs), trivial⟩, trivial, trivial⟩
          · repeat refine And.intro rfl ?_
            refine And.intro (fun h => absurd h (by simp)) (fun _ => ?_)
            simp only [Bool.not_eq_true', Bool.not_eq_false'] at h5
            repeat refine And.intro rfl ?_
            exact ⟨_, _, _, ⟨i + 1, rfl, hlt, by rw [hr, ha, all_step hlt, show overOk xs (xs[i]'hlt) = true from by simp only [overOk, h5, Bool.true_or]]; rfl, rfl, rfl⟩, by omega, rfl, rfl, ⟨rfl, rfl, rfl, nd (wrap_succ hlt hs), trivial⟩, trivial, trivial⟩
        · repeat refine And.intro rfl ?_
          refine And.intro (fun _ => ?_) (fun h => absurd h (by simp))
          refine bd ?_
          rw [hr, ← asc_less (key := fun s : GateTeam => s.name) hlt h0' h4]; rfl
      · repeat refine And.intro rfl ?_
        refine And.intro (fun _ => ?_) (fun h => absurd h (by simp))
        have ha := asc_ok (key := fun s : GateTeam => s.name) hlt h2 (.inl (le0 h3))
        repeat refine And.intro rfl ?_
        refine And.intro (fun h5 => ?_) (fun h5 => ?_)
        · repeat refine And.intro rfl ?_
          refine Or.inl (Exists.intro _ (And.intro (i_teamOf xs (xs[i]'hlt).over) ?_))
          repeat refine And.intro rfl ?_
          refine And.intro (fun h6 => ?_) (fun h6 => ?_)
          · refine bd ?_
            rw [idx_lt] at h6
            simp only [Bool.not_eq_true', Bool.not_eq_false', cond_true, cond_false] at h5 h6
            rw [hr, all_step hlt, show overOk xs (xs[i]'hlt) = false from by simp only [overOk, h5, h6, Bool.or_false]]
            simp only [Bool.false_and, Bool.and_false]
          · rw [idx_lt] at h6
            simp only [Bool.not_eq_true', Bool.not_eq_false', cond_true, cond_false] at h5 h6
            repeat refine And.intro rfl ?_
            exact ⟨_, _, _, ⟨i + 1, rfl, hlt, by rw [hr, ha, all_step hlt, show overOk xs (xs[i]'hlt) = true from by simp only [overOk, h5, h6, Bool.false_or]]; rfl, rfl, rfl⟩, by omega, rfl, rfl, ⟨rfl, rfl, rfl, nd (wrap_succ hlt hs), trivial⟩, trivial, trivial⟩
        · repeat refine And.intro rfl ?_
          refine And.intro (fun h => absurd h (by simp)) (fun _ => ?_)
          simp only [Bool.not_eq_true', Bool.not_eq_false'] at h5
          repeat refine And.intro rfl ?_
          exact ⟨_, _, _, ⟨i + 1, rfl, hlt, by rw [hr, ha, all_step hlt, show overOk xs (xs[i]'hlt) = true from by simp only [overOk, h5, Bool.true_or]]; rfl, rfl, rfl⟩, by omega, rfl, rfl, ⟨rfl, rfl, rfl, nd (wrap_succ hlt hs), trivial⟩, trivial, trivial⟩
    · repeat refine And.intro rfl ?_
      refine And.intro (fun h => absurd h (by simp)) (fun _ => ?_)
      repeat refine And.intro rfl ?_
      refine And.intro (fun _ => ?_) (fun h => absurd h (by simp))
      refine bd ?_
      rw [hr, ← asc_name (key := fun s : GateTeam => s.name) hlt h2]; rfl
  · rw [asc_end (ge_map h1), all_end (ge_map h1)] at hr
    rw [hr]
    have hb := Bool.and_eq_true_iff.1 hr
    have hin : ∀ t ∈ xs, t.over = [] ∨ xs.any (·.name == t.over) = true := fun t ht => by
      have := List.all_eq_true.1 hb.2 t ht
      simpa [overOk] using this
    clear hr
    repeat refine And.intro rfl ?_
    refine ⟨fun m l h => ∃ (i : Nat) , m = xs.length - i ∧ i ≤ xs.length ∧ ((true && true && xs.all (fun t => upN xs 4 t.over == [])) = (xs.drop i).all (fun t => upN xs 4 t.over == [])) ∧ l = [(0, .d (lGateTeam xs)), (51, .d (lGateTeam xs)), (52, .d (.int .i64 (xs.map GateTeam.e).length)), (53, .d (.int .i64 i))] ∧ h = hp0,
      ⟨_, _, _, ⟨0, rfl, Nat.zero_le _, rfl, rfl, rfl⟩, rfl, rfl, ⟨rfl, rfl, rfl, rfl, trivial⟩, trivial, trivial⟩, ?_⟩
    rintro m l hh ⟨i, rfl, hi, hr, rfl, rfl⟩
    repeat refine And.intro rfl ?_
    refine And.intro (fun h7 => ?_) (fun h7 => ?_)
    · have hlt : i < xs.length := lt_map h7
      rw [all_step hlt] at hr
      repeat refine And.intro rfl ?_
      refine ix_at (e := GateTeam.e) (xs := xs) (hlt) rfl ?_
      repeat refine And.intro rfl ?_
      refine ⟨fun m l h => ∃ (c : Nat) (u : Bs), m = 4 - c ∧ c ≤ 4 ∧ upN xs 4 (xs[i]'hlt).over = upN xs (4 - c) u ∧ (u = [] ∨ xs.any (·.name == u) = true) ∧ l = [(0, .d (lGateTeam xs)), (7, .d (.int .i64 c)), (8, .d (.str u)), (51, .d (lGateTeam xs)), (52, .d (.int .i64 (xs.map GateTeam.e).length)), (53, .d (.int .i64 i))] ∧ h = hp0,
        ⟨_, _, _, ⟨0, _, rfl, Nat.zero_le _, rfl, hin _ (List.getElem_mem hlt), rfl, rfl⟩, rfl, rfl, ⟨rfl, rfl, rfl, rfl, rfl, rfl, trivial⟩, trivial, trivial⟩, ?_⟩
      rintro m l hh ⟨c, u, rfl, hc, hu, hv, rfl, rfl⟩
      repeat refine And.intro rfl ?_
      refine And.intro (fun h8 => ?_) (fun h8 => ?_)
      · have hne : (u == []) = false := by simpa using h8
        have hany : xs.any (·.name == u) = true := hv.resolve_left (by simpa using hne)
        repeat refine And.intro rfl ?_
        refine And.intro (fun h9 => ?_) (fun h9 => ?_)
        · refine bd ?_
          have hc4 : c = 4 := by
            have := of_decide_eq_true h9
            rw [IntKind.wrap_i64] at this
            omega
          subst hc4
          rw [hr, hu]
          simp only [Nat.sub_self, upN, hne, Bool.false_and]
        · have hc3 : c < 4 := by
            have := of_decide_eq_false h9
            rw [IntKind.wrap_i64] at this
            omega
          repeat refine And.intro rfl ?_
          refine Or.inl (Exists.intro _ (And.intro (i_teamOf xs u) ?_))
          obtain ⟨j, hj, ej, _⟩ := idx_pos (p := fun t : GateTeam => t.name == u) (xs := xs) (by rw [idx_any]; exact hany)
          obtain ⟨_, eo⟩ := overF_idx (n := u) (xs := xs) (k := 0) (j := j) (by rw [Nat.zero_add]; exact ej)
          repeat refine And.intro rfl ?_
          refine ix_atw (e := GateTeam.e) (xs := xs) (hj) (ej) rfl ?_
          repeat refine And.intro rfl ?_
          refine ⟨_, _, _, ⟨c + 1, _, rfl, hc3, ?_, ?_, rfl, rfl⟩, by omega, rfl, rfl, ⟨rfl, nd (wrap_succ hc3 (by decide)), rfl, rfl, rfl, rfl, trivial⟩, trivial, trivial⟩
          · rw [hu, show 4 - c = (4 - (c + 1)) + 1 from by omega]
            simp only [upN, hne, cond_false, eo]
          · exact hin _ (List.getElem_mem hj)
      · have hue : u = [] := by simpa using h8
        subst hue
        rw [upN_nil] at hu
        repeat refine And.intro rfl ?_
        exact ⟨_, _, _, ⟨i + 1, rfl, hlt, by rw [hr, hu]; rfl, rfl, rfl⟩, by omega, rfl, rfl, ⟨rfl, rfl, rfl, nd (wrap_succ hlt hs), trivial⟩, trivial, trivial⟩
    · refine bd ?_
      rw [hr, all_end (ge_map h7)]
end Go.Vc
