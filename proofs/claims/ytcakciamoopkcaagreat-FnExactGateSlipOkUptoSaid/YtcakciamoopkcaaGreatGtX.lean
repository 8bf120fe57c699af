/- Contracts: mends of the specification. -/
import Derived.Test.YtcakciamoopkcaaGreatGtW
namespace Go.Vc
open Go.Proofs
set_option maxRecDepth 100000
set_option pp.maxSteps 400
set_option pp.deepTerms false
set_option linter.unusedSimpArgs false
set_option linter.unusedVariables false
theorem s_l3Ready (ms : List GateMend) (k f : Bs) (row : List Bs) : Spec P 85 [.d (lGateMend ms), .d (.str k), .d (.str f), .d (lS row)] (.d (.bool (readyF k f row ms))) := by
  refine Spec.of_vc vcT vcM [.tmp 8] Tryz.func85 rfl rfl rfl rfl (fun hok => ?_)
  have hs : ms.length ≤ big := len_map hok.1.1
  repeat refine And.intro rfl ?_
  refine ⟨fun m l h => ∃ (i : Nat) , m = ms.length - i ∧ i ≤ ms.length ∧ (readyF k f row ms = (ms.drop i).all (rdy k f row)) ∧ l = [(0, .d (lGateMend ms)), (1, .d (.str k)), (2, .d (.str f)), (3, .d (lS row)), (9, .d (.int .i64 i))] ∧ h = hp0,
    ⟨_, _, _, ⟨0, rfl, Nat.zero_le _, rfl, rfl, rfl⟩, rfl, rfl, ⟨rfl, rfl, rfl, rfl, rfl, trivial⟩, trivial, trivial⟩, ?_⟩
  rintro m l hh ⟨i, rfl, hi, hr, rfl, rfl⟩
  repeat refine And.intro rfl ?_
  refine And.intro (fun h1 => ?_) (fun h1 => ?_)
  · have hlt : i < ms.length := lt_map h1
    rw [all_step hlt] at hr
    repeat refine And.intro rfl ?_
    refine ix_at (e := GateMend.e) (xs := ms) (hlt) rfl ?_
    repeat refine And.intro rfl ?_
    repeat' first
      | refine And.intro rfl ?_
      | refine And.intro (fun h => ?_) (fun h => ?_)
      | refine Or.inl (Exists.intro _ (And.intro (s_l1Has _ _) ?_))
    all_goals first
      | (refine bd ?_; (try simp only [Bool.not_eq_true', Bool.not_eq_false'] at *); rw [hr]; simp only [rdy, *, Bool.true_and, Bool.false_and, Bool.and_true, Bool.and_false, Bool.true_or, Bool.or_true, Bool.false_or, Bool.or_false, Bool.not_true, Bool.not_false]; done)
      | exact ⟨_, _, _, ⟨i + 1, rfl, hlt, (by (try simp only [Bool.not_eq_true', Bool.not_eq_false'] at *); rw [hr]; simp only [rdy, *, Bool.true_and, Bool.false_and, Bool.and_true, Bool.and_false, Bool.true_or, Bool.or_true, Bool.false_or, Bool.or_false, Bool.not_true, Bool.not_false]), rfl, rfl⟩, by omega, rfl, rfl, ⟨rfl, rfl, rfl, rfl, nd (wrap_succ hlt hs), trivial⟩, trivial, trivial⟩
  · refine bd ?_
    rw [hr, all_end (ge_map h1)]
theorem fg (s : GateShape) : (st s.e) = .agg [.d (.str s.kind), .d (lGateField s.fields)] := rfl
theorem s_l3Row (s : GateShape) (ms : List GateMend) : Spec P 62 [st s.e, .d (lGateMend ms)] (.d (lS (rowF s ms))) := by
  refine Spec.of_vc vcT vcM [.tmp 4] Tryz.func62 rfl rfl rfl rfl (fun hok => ?_)
  have hs : s.fields.length ≤ big := by
    have := hok.1
    simp only [st, AV.ok, GateShape.e, List.map, okAs] at this
    exact len_map this.2.1.1
  repeat refine And.intro rfl ?_
  refine ⟨fun m l h => ∃ (n : Nat) , m = s.fields.length - n ∧ n ≤ s.fields.length ∧ (True) ∧ l = [(1, .d (lGateMend ms)), (2, .ptr 0 0), (5, .own 1), (6, .d (.int .i64 n))] ∧ h = ⟨[(1, .row 9 1 ((gr s ms n).map eB)), (0, .cells 93 (s.e.map .d))], 2, 0⟩,
    ⟨_, _, _, ⟨0, rfl, Nat.zero_le _, trivial, rfl, rfl⟩, rfl, rfl, ⟨rfl, rfl, rfl, rfl, trivial⟩, ⟨rfl, rfl, trivial⟩, ⟨rfl, rfl, trivial⟩⟩, ?_⟩
  rintro m l hh ⟨n, rfl, hn, hr, rfl, rfl⟩
  repeat refine And.intro rfl ?_
  refine And.intro (fun h1 => ?_) (fun h1 => ?_)
  · have hlt0 : n < s.fields.length := lt_map h1
    repeat refine And.intro rfl ?_
    refine ⟨fun m l h => ∃ (i : Nat) , m = s.fields.length - i ∧ i ≤ s.fields.length ∧ (nextF s ms (gr s ms n) s.fields = nextF s ms (gr s ms n) (s.fields.drop i)) ∧ l = [(1, .d (lGateMend ms)), (2, .ptr 0 0), (5, .own 1), (6, .d (.int .i64 n)), (7, .d (.int .i64 i))] ∧ h = ⟨[(1, .row 9 1 ((gr s ms n).map eB)), (0, .cells 93 (s.e.map .d))], 2, 0⟩,
      ⟨_, _, _, ⟨0, rfl, Nat.zero_le _, rfl, rfl, rfl⟩, rfl, rfl, ⟨rfl, rfl, rfl, rfl, rfl, trivial⟩, ⟨rfl, rfl, trivial⟩, ⟨rfl, rfl, trivial⟩⟩, ?_⟩
    rintro m l hh ⟨i, rfl, hi, hr, rfl, rfl⟩
    repeat refine And.intro rfl ?_
    refine And.intro (fun h2 => ?_) (fun h2 => ?_)
    · have hlt : i < s.fields.length := lt_map h2
      repeat refine And.intro rfl ?_
      refine ix_at (e := GateField.e) (xs := s.fields) (hlt) rfl ?_
      repeat refine And.intro rfl ?_
      repeat refine And.intro rfl ?_
      refine Or.inl (Exists.intro _ (And.intro (s_l1Has _ _) ?_))
      repeat refine And.intro rfl ?_
      refine And.intro (fun h3 => ?_) (fun h3 => ?_)
      · simp only [Bool.not_eq_true', Bool.not_eq_false'] at h3
        repeat refine And.intro rfl ?_
        refine Or.inl (Exists.intro _ (And.intro (s_l3Ready _ _ _ _) ?_))
        repeat refine And.intro rfl ?_
        refine And.intro (fun h4 => ?_) (fun h4 => ?_)
        · repeat refine And.intro rfl ?_
          refine And.intro (fun r hr => by rw [List.mem_singleton.1 hr]; rfl) ?_
          repeat refine And.intro rfl ?_
          refine And.intro (by have := gr_le s ms n; simp only [List.length_map, List.length_cons, List.length_nil]; unfold big at *; omega) ?_
          have hc : candF s ms (gr s ms n) s.fields[i].name = true := by unfold candF; rw [h3, h4]; rfl
          have hg : gr s ms (n + 1) = gr s ms n ++ [s.fields[i].name] := gr_some (by
            show nextF s ms (gr s ms n) s.fields = _
            rw [hr, nextF_step hlt, hc]; rfl)
          repeat refine And.intro rfl ?_
          exact ⟨_, _, _, ⟨n + 1, rfl, hlt0, trivial, rfl, rfl⟩, by omega, rfl, rfl, ⟨rfl, rfl, rfl, nd (wrap_succ hlt0 hs), trivial⟩, ⟨rfl, rfl, trivial⟩, ⟨row_tab (by rw [hg, List.map_append]; rfl), rfl, trivial⟩⟩
        · repeat refine And.intro rfl ?_
          exact ⟨_, _, _, ⟨i + 1, rfl, hlt, by rw [hr, nextF_step hlt, show candF s ms (gr s ms n) s.fields[i].name = false from by unfold candF; rw [h4, Bool.and_false]]; rfl, rfl, rfl⟩, by omega, rfl, rfl, ⟨rfl, rfl, rfl, rfl, nd (wrap_succ hlt hs), trivial⟩, ⟨rfl, rfl, trivial⟩, ⟨rfl, rfl, trivial⟩⟩
      · simp only [Bool.not_eq_true', Bool.not_eq_false'] at h3
        repeat refine And.intro rfl ?_
        exact ⟨_, _, _, ⟨i + 1, rfl, hlt, by rw [hr, nextF_step hlt, show candF s ms (gr s ms n) s.fields[i].name = false from by unfold candF; rw [h3]; rfl]; rfl, rfl, rfl⟩, by omega, rfl, rfl, ⟨rfl, rfl, rfl, rfl, nd (wrap_succ hlt hs), trivial⟩, ⟨rfl, rfl, trivial⟩, ⟨rfl, rfl, trivial⟩⟩
    · have hg : gr s ms (n + 1) = gr s ms n := gr_none (by
        show nextF s ms (gr s ms n) s.fields = _
        rw [hr, nextF_end (ge_map h2)])
      repeat refine And.intro rfl ?_
      exact ⟨_, _, _, ⟨n + 1, rfl, hlt0, trivial, rfl, rfl⟩, by omega, rfl, rfl, ⟨rfl, rfl, rfl, nd (wrap_succ hlt0 hs), trivial⟩, ⟨rfl, rfl, trivial⟩, ⟨row_tab (by rw [hg]), rfl, trivial⟩⟩
  · refine ld ?_
    rw [show n = s.fields.length from by have := ge_map h1; omega]; rfl
theorem s_GateMendsOk (xs : List GateShape) (ms : List GateMend) : Spec P 37 [.d (lGateShape xs), .d (lGateMend ms)] (.d (.bool (mendsOk xs ms))) := by
  refine Spec.of_vc vcT vcM [.tmp 4] Tryz.func37 rfl rfl rfl rfl (fun hok => ?_)
  have hs : xs.length ≤ big := len_map hok.1.1
  have hsm : ms.length ≤ big := len_map hok.2.1.1
  repeat refine And.intro rfl ?_
  refine Or.inl (Exists.intro _ (And.intro (s_GateShapesOk _) ?_))
  repeat refine And.intro rfl ?_
  refine And.intro (fun h0 => ?_) (fun h0 => ?_)
  · simp only [Bool.not_eq_true', Bool.not_eq_false'] at h0
    repeat refine And.intro rfl ?_
    refine And.intro (fun h1 => ?_) (fun h1 => ?_)
    · rw [List.length_map] at h1
      refine bd ?_
      simp only [mendsOk, h1, Bool.not_true, Bool.false_and, Bool.and_false]
    · rw [List.length_map] at h1
      have e : mendsOk xs ms = (ms.all (mendOkF xs) && xs.all fun s => ((rowF s ms).length : Int) == (s.fields.length : Int)) := by simp only [mendsOk, h0, h1, Bool.not_false, Bool.true_and]
      rw [e]
      repeat refine And.intro rfl ?_
      refine ⟨fun m l h => ∃ (i : Nat) , m = ms.length - i ∧ i ≤ ms.length ∧ (ms.all (mendOkF xs) = (ms.drop i).all (mendOkF xs)) ∧ l = [(0, .d (lGateShape xs)), (1, .d (lGateMend ms)), (5, .d (.int .i64 i))] ∧ h = hp0,
        ⟨_, _, _, ⟨0, rfl, Nat.zero_le _, rfl, rfl, rfl⟩, rfl, rfl, ⟨rfl, rfl, rfl, trivial⟩, trivial, trivial⟩, ?_⟩
      rintro m l hh ⟨i, rfl, hi, hr, rfl, rfl⟩
      repeat refine And.intro rfl ?_
      refine And.intro (fun h2 => ?_) (fun h2 => ?_)
      · have hlt : i < ms.length := lt_map h2
        rw [all_step hlt] at hr
        repeat refine And.intro rfl ?_
        refine ix_at (e := GateMend.e) (xs := ms) (hlt) rfl ?_
        repeat refine And.intro rfl ?_
        repeat refine And.intro rfl ?_
        refine Or.inl (Exists.intro _ (And.intro (s_l3MendOk _ _) ?_))
        repeat refine And.intro rfl ?_
        refine And.intro (fun h3 => ?_) (fun h3 => ?_)
        · simp only [Bool.not_eq_true', Bool.not_eq_false'] at h3
          refine bd ?_
          rw [hr, h3]; rfl
        · simp only [Bool.not_eq_true', Bool.not_eq_false'] at h3
          repeat refine And.intro rfl ?_
          exact ⟨_, _, _, ⟨i + 1, rfl, hlt, by rw [hr, h3]; rfl, rfl, rfl⟩, by omega, rfl, rfl, ⟨rfl, rfl, nd (wrap_succ hlt hsm), trivial⟩, trivial, trivial⟩
      · rw [all_end (ge_map h2)] at hr
        rw [hr, Bool.true_and]
        repeat refine And.intro rfl ?_
        refine ⟨fun m l h => ∃ (i : Nat) , m = xs.length - i ∧ i ≤ xs.length ∧ ((xs.all fun s => ((rowF s ms).length : Int) == (s.fields.length : Int)) = ((xs.drop i).all fun s => ((rowF s ms).length : Int) == (s.fields.length : Int))) ∧ l = [(0, .d (lGateShape xs)), (1, .d (lGateMend ms)), (6, .d (.int .i64 i))] ∧ h = hp0,
          ⟨_, _, _, ⟨0, rfl, Nat.zero_le _, rfl, rfl, rfl⟩, rfl, rfl, ⟨rfl, rfl, rfl, trivial⟩, trivial, trivial⟩, ?_⟩
        rintro m l hh ⟨i, rfl, hi, hr, rfl, rfl⟩
        repeat refine And.intro rfl ?_
        refine And.intro (fun h4 => ?_) (fun h4 => ?_)
        · have hlt : i < xs.length := lt_map h4
          rw [all_step hlt] at hr
          repeat refine And.intro rfl ?_
          refine And.intro (by kernel_rfl) ?_
          repeat refine And.intro rfl ?_
          repeat refine And.intro rfl ?_
          refine ix_at (e := GateShape.e) (xs := xs) (hlt) rfl ?_
          repeat refine And.intro rfl ?_
          repeat refine And.intro rfl ?_
          refine Or.inl (Exists.intro _ (And.intro (s_l3Row _ _) ?_))
          repeat refine And.intro rfl ?_
          refine ix_at (e := GateShape.e) (xs := xs) (hlt) rfl ?_
          repeat refine And.intro rfl ?_
          repeat refine And.intro rfl ?_
          refine And.intro (fun h5 => ?_) (fun h5 => ?_)
          · simp only [bne, Bool.not_eq_true', Bool.not_eq_false', List.length_map] at h5
            refine bd ?_
            rw [hr, h5]; rfl
          · simp only [bne, Bool.not_eq_true', Bool.not_eq_false', List.length_map] at h5
            repeat refine And.intro rfl ?_
            exact ⟨_, _, _, ⟨i + 1, rfl, hlt, by rw [hr, h5]; rfl, rfl, rfl⟩, by omega, rfl, rfl, ⟨rfl, rfl, nd (wrap_succ hlt hs), trivial⟩, trivial, trivial⟩
        · refine bd ?_
          rw [hr, all_end (ge_map h4)]
  · simp only [Bool.not_eq_true', Bool.not_eq_false'] at h0
    refine bd ?_
    simp only [mendsOk, h0, Bool.false_and]
end Go.Vc
