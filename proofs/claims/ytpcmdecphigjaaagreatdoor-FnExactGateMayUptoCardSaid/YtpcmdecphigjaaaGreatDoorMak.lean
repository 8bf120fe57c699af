/- FnExactGateMay, where what it reads is of bulk at most 1048576: it returns true, and its arguments read as they did. -/
import Derived.Test.YtpcmdecphigjaaaGreatDoorMaa
import Derived.Test.YtpcmdecphigjaaaGreatDoorMab
import Derived.Test.YtpcmdecphigjaaaGreatDoorMac
import Derived.Test.YtpcmdecphigjaaaGreatDoorMad
import Derived.Test.YtpcmdecphigjaaaGreatDoorMae
import Derived.Test.YtpcmdecphigjaaaGreatDoorMaf
import Derived.Test.YtpcmdecphigjaaaGreatDoorMag
import Derived.Test.YtpcmdecphigjaaaGreatDoorMah
import Derived.Test.YtpcmdecphigjaaaGreatDoorMai
import Derived.Test.YtpcmdecphigjaaaGreatDoorMaj
import Derived.SevenTiedAt
section
namespace Go.Vc
open Go.Proofs
set_option maxRecDepth 100000
set_option pp.maxSteps 400
set_option pp.deepTerms false
set_option linter.unusedSimpArgs false
set_option linter.unusedVariables false
theorem szStringS : ∃ m : List Bs → Int → Int, ∀ x n, Spec P 102 [.d (lS x), .d (.int .i64 n)] (.d (.int .i64 (m x n))) := by
  refine ⟨fun x n => szB (IntKind.i64.wrap (n - ((x.map eB).length : Int))) fun n => szL (fun (s : Bs) n => IntKind.i64.wrap (n - (s.length : Int))) x n, fun xs n => ?_⟩
  refine Spec.of_vc vcT vcM [.tmp 4] Tryz.func102 rfl rfl rfl rfl (fun hok => ?_)
  have hs : xs.length ≤ big := by have := hok.1.1; rwa [List.length_map] at this
  refine And.intro (fun h => nd (by simp only [szB, h, cond_true, cond_false])) (fun h => ?_)
  simp only [szB, h, cond_true, cond_false]
  refine ⟨fun k l h => ∃ (i : Nat) (v : Int), k = xs.length - i ∧ i ≤ xs.length ∧ szL (fun (s : Bs) n => IntKind.i64.wrap (n - (s.length : Int))) xs (IntKind.i64.wrap (n - ((xs.map eB).length : Int))) = szL (fun (s : Bs) n => IntKind.i64.wrap (n - (s.length : Int))) (xs.drop i) v ∧ l = [(0, .d (lS xs)), (1, .d (.int .i64 v)), (5, .d (.int .i64 i))] ∧ h = hp0,
    ⟨_, _, _, ⟨0, _, rfl, Nat.zero_le _, rfl, rfl, rfl⟩, rfl, rfl, ⟨rfl, rfl, rfl, trivial⟩, trivial, trivial⟩, ?_⟩
  rintro k l h1 ⟨i, v, rfl, hi, hr, rfl, rfl⟩
  refine And.intro (fun h1 => ?_) (fun h1 => ?_)
  · have hlt : i < xs.length := lt_map h1
    repeat refine And.intro rfl ?_
    refine ix_at (e := eB) (xs := xs) (hlt) rfl ?_
    repeat refine And.intro rfl ?_
    refine And.intro (fun h2 => ?_) (fun h2 => ?_)
    · refine nd ?_
      rw [hr, szL_step hlt]
      simp only [szB, h2, cond_true]
    · refine ⟨_, _, _, ⟨i + 1, _, rfl, hlt, ?_, rfl, rfl⟩, by omega, rfl, rfl, ⟨rfl, rfl, nd (wrap_succ hlt hs), trivial⟩, trivial, trivial⟩
      rw [hr, szL_step hlt]
      simp only [szB, h2, cond_false]
  · refine nd ?_
    rw [hr, List.drop_of_length_le (ge_map h1)]; rfl
theorem szIntS : ∃ m : List Int → Int → Int, ∀ x n, Spec P 147 [.d (lI x), .d (.int .i64 n)] (.d (.int .i64 (m x n))) := by
  refine ⟨fun x n => szB (IntKind.i64.wrap (n - ((x.map eN).length : Int))) fun n => n, fun x n => ?_⟩
  refine Spec.of_vc vcT vcM [.tmp 4] Tryz.func147 rfl rfl rfl rfl (fun hok => ?_)
  refine And.intro (fun h => nd (by simp only [szB, h, cond_true, cond_false])) (fun h => nd (by simp only [szB, h, cond_true, cond_false]))
theorem szGateField : ∃ m : GateField → Int → Int, ∀ x n, Spec P 146 [st x.e, .d (.int .i64 n)] (.d (.int .i64 (m x n))) := by
  obtain ⟨m0, hm0⟩ := szStringS
  refine ⟨fun x n => szB (IntKind.i64.wrap (n - (x.name.length : Int))) fun n => szB (m0 x.words n) fun n => szB (IntKind.i64.wrap (n - (x.to_.length : Int))) fun n => szB (IntKind.i64.wrap (n - (x.default_.length : Int))) fun n => szB (IntKind.i64.wrap (n - (x.weighs.length : Int))) fun n => n, fun x n => ?_⟩
  refine Spec.of_vc vcT vcM [.tmp 4] Tryz.func146 rfl rfl rfl rfl (fun hok => ?_)
  refine And.intro (fun h => nd (by simp only [szB, h, *, cond_true, cond_false])) (fun h0 => ?_)
  repeat refine And.intro rfl ?_
  refine Or.inl (Exists.intro _ (And.intro (hm0 _ _) ?_))
  refine And.intro (fun h => nd (by simp only [szB, h, *, cond_true, cond_false])) (fun h1 => ?_)
  refine And.intro (fun h => nd (by simp only [szB, h, *, cond_true, cond_false])) (fun h2 => ?_)
  refine And.intro (fun h => nd (by simp only [szB, h, *, cond_true, cond_false])) (fun h3 => ?_)
  refine And.intro (fun h => nd (by simp only [szB, h, *, cond_true, cond_false])) (fun h4 => ?_)
  exact nd (by simp only [szB, *, cond_true, cond_false])
theorem szGateFieldS : ∃ m : List GateField → Int → Int, ∀ x n, Spec P 101 [.d (lGateField x), .d (.int .i64 n)] (.d (.int .i64 (m x n))) := by
  obtain ⟨m, hm⟩ := szGateField
  refine ⟨fun x n => szB (IntKind.i64.wrap (n - ((x.map GateField.e).length : Int))) fun n => szL m x n, fun xs n => ?_⟩
  refine Spec.of_vc vcT vcM [.tmp 4] Tryz.func101 rfl rfl rfl rfl (fun hok => ?_)
  have hs : xs.length ≤ big := by have := hok.1.1; rwa [List.length_map] at this
  refine And.intro (fun h => nd (by simp only [szB, h, cond_true, cond_false])) (fun h => ?_)
  simp only [szB, h, cond_true, cond_false]
  refine ⟨fun k l h => ∃ (i : Nat) (v : Int), k = xs.length - i ∧ i ≤ xs.length ∧ szL m xs (IntKind.i64.wrap (n - ((xs.map GateField.e).length : Int))) = szL m (xs.drop i) v ∧ l = [(0, .d (lGateField xs)), (1, .d (.int .i64 v)), (5, .d (.int .i64 i))] ∧ h = hp0,
    ⟨_, _, _, ⟨0, _, rfl, Nat.zero_le _, rfl, rfl, rfl⟩, rfl, rfl, ⟨rfl, rfl, rfl, trivial⟩, trivial, trivial⟩, ?_⟩
  rintro k l h1 ⟨i, v, rfl, hi, hr, rfl, rfl⟩
  refine And.intro (fun h1 => ?_) (fun h1 => ?_)
  · have hlt : i < xs.length := lt_map h1
    repeat refine And.intro rfl ?_
    refine ix_at (e := GateField.e) (xs := xs) (hlt) rfl ?_
    repeat refine And.intro rfl ?_
    repeat refine And.intro rfl ?_
    refine Or.inl (Exists.intro _ (And.intro (hm _ _) ?_))
    refine And.intro (fun h2 => ?_) (fun h2 => ?_)
    · refine nd ?_
      rw [hr, szL_step hlt]
      simp only [szB, h2, cond_true]
    · refine ⟨_, _, _, ⟨i + 1, _, rfl, hlt, ?_, rfl, rfl⟩, by omega, rfl, rfl, ⟨rfl, rfl, nd (wrap_succ hlt hs), trivial⟩, trivial, trivial⟩
      rw [hr, szL_step hlt]
      simp only [szB, h2, cond_false]
  · refine nd ?_
    rw [hr, List.drop_of_length_le (ge_map h1)]; rfl
theorem szGateShape : ∃ m : GateShape → Int → Int, ∀ x n, Spec P 55 [st x.e, .d (.int .i64 n)] (.d (.int .i64 (m x n))) := by
  obtain ⟨m0, hm0⟩ := szGateFieldS
  refine ⟨fun x n => szB (IntKind.i64.wrap (n - (x.kind.length : Int))) fun n => szB (m0 x.fields n) fun n => n, fun x n => ?_⟩
  refine Spec.of_vc vcT vcM [.tmp 4] Tryz.func55 rfl rfl rfl rfl (fun hok => ?_)
  refine And.intro (fun h => nd (by simp only [szB, h, *, cond_true, cond_false])) (fun h0 => ?_)
  repeat refine And.intro rfl ?_
  refine Or.inl (Exists.intro _ (And.intro (hm0 _ _) ?_))
  refine And.intro (fun h => nd (by simp only [szB, h, *, cond_true, cond_false])) (fun h1 => ?_)
  exact nd (by simp only [szB, *, cond_true, cond_false])
theorem szGateShapeS : ∃ m : List GateShape → Int → Int, ∀ x n, Spec P 23 [.d (lGateShape x), .d (.int .i64 n)] (.d (.int .i64 (m x n))) := by
  obtain ⟨m, hm⟩ := szGateShape
  refine ⟨fun x n => szB (IntKind.i64.wrap (n - ((x.map GateShape.e).length : Int))) fun n => szL m x n, fun xs n => ?_⟩
  refine Spec.of_vc vcT vcM [.tmp 4] Tryz.func23 rfl rfl rfl rfl (fun hok => ?_)
  have hs : xs.length ≤ big := by have := hok.1.1; rwa [List.length_map] at this
  refine And.intro (fun h => nd (by simp only [szB, h, cond_true, cond_false])) (fun h => ?_)
  simp only [szB, h, cond_true, cond_false]
  refine ⟨fun k l h => ∃ (i : Nat) (v : Int), k = xs.length - i ∧ i ≤ xs.length ∧ szL m xs (IntKind.i64.wrap (n - ((xs.map GateShape.e).length : Int))) = szL m (xs.drop i) v ∧ l = [(0, .d (lGateShape xs)), (1, .d (.int .i64 v)), (5, .d (.int .i64 i))] ∧ h = hp0,
    ⟨_, _, _, ⟨0, _, rfl, Nat.zero_le _, rfl, rfl, rfl⟩, rfl, rfl, ⟨rfl, rfl, rfl, trivial⟩, trivial, trivial⟩, ?_⟩
  rintro k l h1 ⟨i, v, rfl, hi, hr, rfl, rfl⟩
  refine And.intro (fun h1 => ?_) (fun h1 => ?_)
  · have hlt : i < xs.length := lt_map h1
    repeat refine And.intro rfl ?_
    refine ix_at (e := GateShape.e) (xs := xs) (hlt) rfl ?_
    repeat refine And.intro rfl ?_
    repeat refine And.intro rfl ?_
    refine Or.inl (Exists.intro _ (And.intro (hm _ _) ?_))
    refine And.intro (fun h2 => ?_) (fun h2 => ?_)
    · refine nd ?_
      rw [hr, szL_step hlt]
      simp only [szB, h2, cond_true]
    · refine ⟨_, _, _, ⟨i + 1, _, rfl, hlt, ?_, rfl, rfl⟩, by omega, rfl, rfl, ⟨rfl, rfl, nd (wrap_succ hlt hs), trivial⟩, trivial, trivial⟩
      rw [hr, szL_step hlt]
      simp only [szB, h2, cond_false]
  · refine nd ?_
    rw [hr, List.drop_of_length_le (ge_map h1)]; rfl
theorem szGateMend : ∃ m : GateMend → Int → Int, ∀ x n, Spec P 56 [st x.e, .d (.int .i64 n)] (.d (.int .i64 (m x n))) := by
  refine ⟨fun x n => szB (IntKind.i64.wrap (n - (x.kind.length : Int))) fun n => szB (IntKind.i64.wrap (n - (x.field.length : Int))) fun n => szB (IntKind.i64.wrap (n - (x.when_.length : Int))) fun n => szB (IntKind.i64.wrap (n - (x.is_.length : Int))) fun n => szB (IntKind.i64.wrap (n - (x.put.length : Int))) fun n => szB (IntKind.i64.wrap (n - (x.from_.length : Int))) fun n => n, fun x n => ?_⟩
  refine Spec.of_vc vcT vcM [.tmp 4] Tryz.func56 rfl rfl rfl rfl (fun hok => ?_)
  refine And.intro (fun h => nd (by simp only [szB, h, *, cond_true, cond_false])) (fun h0 => ?_)
  refine And.intro (fun h => nd (by simp only [szB, h, *, cond_true, cond_false])) (fun h1 => ?_)
  refine And.intro (fun h => nd (by simp only [szB, h, *, cond_true, cond_false])) (fun h2 => ?_)
  refine And.intro (fun h => nd (by simp only [szB, h, *, cond_true, cond_false])) (fun h3 => ?_)
  refine And.intro (fun h => nd (by simp only [szB, h, *, cond_true, cond_false])) (fun h4 => ?_)
  refine And.intro (fun h => nd (by simp only [szB, h, *, cond_true, cond_false])) (fun h5 => ?_)
  exact nd (by simp only [szB, *, cond_true, cond_false])
theorem szGateMendS : ∃ m : List GateMend → Int → Int, ∀ x n, Spec P 24 [.d (lGateMend x), .d (.int .i64 n)] (.d (.int .i64 (m x n))) := by
  obtain ⟨m, hm⟩ := szGateMend
  refine ⟨fun x n => szB (IntKind.i64.wrap (n - ((x.map GateMend.e).length : Int))) fun n => szL m x n, fun xs n => ?_⟩
  refine Spec.of_vc vcT vcM [.tmp 4] Tryz.func24 rfl rfl rfl rfl (fun hok => ?_)
  have hs : xs.length ≤ big := by have := hok.1.1; rwa [List.length_map] at this
  refine And.intro (fun h => nd (by simp only [szB, h, cond_true, cond_false])) (fun h => ?_)
  simp only [szB, h, cond_true, cond_false]
  refine ⟨fun k l h => ∃ (i : Nat) (v : Int), k = xs.length - i ∧ i ≤ xs.length ∧ szL m xs (IntKind.i64.wrap (n - ((xs.map GateMend.e).length : Int))) = szL m (xs.drop i) v ∧ l = [(0, .d (lGateMend xs)), (1, .d (.int .i64 v)), (5, .d (.int .i64 i))] ∧ h = hp0,
    ⟨_, _, _, ⟨0, _, rfl, Nat.zero_le _, rfl, rfl, rfl⟩, rfl, rfl, ⟨rfl, rfl, rfl, trivial⟩, trivial, trivial⟩, ?_⟩
  rintro k l h1 ⟨i, v, rfl, hi, hr, rfl, rfl⟩
  refine And.intro (fun h1 => ?_) (fun h1 => ?_)
  · have hlt : i < xs.length := lt_map h1
    repeat refine And.intro rfl ?_
    refine ix_at (e := GateMend.e) (xs := xs) (hlt) rfl ?_
    repeat refine And.intro rfl ?_
    repeat refine And.intro rfl ?_
    refine Or.inl (Exists.intro _ (And.intro (hm _ _) ?_))
    refine And.intro (fun h2 => ?_) (fun h2 => ?_)
    · refine nd ?_
      rw [hr, szL_step hlt]
      simp only [szB, h2, cond_true]
    · refine ⟨_, _, _, ⟨i + 1, _, rfl, hlt, ?_, rfl, rfl⟩, by omega, rfl, rfl, ⟨rfl, rfl, nd (wrap_succ hlt hs), trivial⟩, trivial, trivial⟩
      rw [hr, szL_step hlt]
      simp only [szB, h2, cond_false]
  · refine nd ?_
    rw [hr, List.drop_of_length_le (ge_map h1)]; rfl
theorem szGateTeam : ∃ m : GateTeam → Int → Int, ∀ x n, Spec P 57 [st x.e, .d (.int .i64 n)] (.d (.int .i64 (m x n))) := by
  refine ⟨fun x n => szB (IntKind.i64.wrap (n - (x.name.length : Int))) fun n => szB (IntKind.i64.wrap (n - (x.over.length : Int))) fun n => n, fun x n => ?_⟩
  refine Spec.of_vc vcT vcM [.tmp 4] Tryz.func57 rfl rfl rfl rfl (fun hok => ?_)
  refine And.intro (fun h => nd (by simp only [szB, h, *, cond_true, cond_false])) (fun h0 => ?_)
  refine And.intro (fun h => nd (by simp only [szB, h, *, cond_true, cond_false])) (fun h1 => ?_)
  exact nd (by simp only [szB, *, cond_true, cond_false])
theorem szGateTeamS : ∃ m : List GateTeam → Int → Int, ∀ x n, Spec P 25 [.d (lGateTeam x), .d (.int .i64 n)] (.d (.int .i64 (m x n))) := by
  obtain ⟨m, hm⟩ := szGateTeam
  refine ⟨fun x n => szB (IntKind.i64.wrap (n - ((x.map GateTeam.e).length : Int))) fun n => szL m x n, fun xs n => ?_⟩
  refine Spec.of_vc vcT vcM [.tmp 4] Tryz.func25 rfl rfl rfl rfl (fun hok => ?_)
  have hs : xs.length ≤ big := by have := hok.1.1; rwa [List.length_map] at this
  refine And.intro (fun h => nd (by simp only [szB, h, cond_true, cond_false])) (fun h => ?_)
  simp only [szB, h, cond_true, cond_false]
  refine ⟨fun k l h => ∃ (i : Nat) (v : Int), k = xs.length - i ∧ i ≤ xs.length ∧ szL m xs (IntKind.i64.wrap (n - ((xs.map GateTeam.e).length : Int))) = szL m (xs.drop i) v ∧ l = [(0, .d (lGateTeam xs)), (1, .d (.int .i64 v)), (5, .d (.int .i64 i))] ∧ h = hp0,
    ⟨_, _, _, ⟨0, _, rfl, Nat.zero_le _, rfl, rfl, rfl⟩, rfl, rfl, ⟨rfl, rfl, rfl, trivial⟩, trivial, trivial⟩, ?_⟩
  rintro k l h1 ⟨i, v, rfl, hi, hr, rfl, rfl⟩
  refine And.intro (fun h1 => ?_) (fun h1 => ?_)
  · have hlt : i < xs.length := lt_map h1
    repeat refine And.intro rfl ?_
    refine ix_at (e := GateTeam.e) (xs := xs) (hlt) rfl ?_
    repeat refine And.intro rfl ?_
    repeat refine And.intro rfl ?_
    refine Or.inl (Exists.intro _ (And.intro (hm _ _) ?_))
    refine And.intro (fun h2 => ?_) (fun h2 => ?_)
    · refine nd ?_
      rw [hr, szL_step hlt]
      simp only [szB, h2, cond_true]
    · refine ⟨_, _, _, ⟨i + 1, _, rfl, hlt, ?_, rfl, rfl⟩, by omega, rfl, rfl, ⟨rfl, rfl, nd (wrap_succ hlt hs), trivial⟩, trivial, trivial⟩
      rw [hr, szL_step hlt]
      simp only [szB, h2, cond_false]
  · refine nd ?_
    rw [hr, List.drop_of_length_le (ge_map h1)]; rfl
theorem szGateLaw : ∃ m : GateLaw → Int → Int, ∀ x n, Spec P 6 [st x.e, .d (.int .i64 n)] (.d (.int .i64 (m x n))) := by
  obtain ⟨m0, hm0⟩ := szGateShapeS
  obtain ⟨m1, hm1⟩ := szGateMendS
  obtain ⟨m2, hm2⟩ := szGateTeamS
  refine ⟨fun x n => szB (m0 x.shapes n) fun n => szB (m1 x.mends n) fun n => szB (m2 x.teams n) fun n => n, fun x n => ?_⟩
  refine Spec.of_vc vcT vcM [.tmp 4] Tryz.func6 rfl rfl rfl rfl (fun hok => ?_)
  repeat refine And.intro rfl ?_
  refine Or.inl (Exists.intro _ (And.intro (hm0 _ _) ?_))
  refine And.intro (fun h => nd (by simp only [szB, h, *, cond_true, cond_false])) (fun h0 => ?_)
  repeat refine And.intro rfl ?_
  refine Or.inl (Exists.intro _ (And.intro (hm1 _ _) ?_))
  refine And.intro (fun h => nd (by simp only [szB, h, *, cond_true, cond_false])) (fun h1 => ?_)
  repeat refine And.intro rfl ?_
  refine Or.inl (Exists.intro _ (And.intro (hm2 _ _) ?_))
  refine And.intro (fun h => nd (by simp only [szB, h, *, cond_true, cond_false])) (fun h2 => ?_)
  exact nd (by simp only [szB, *, cond_true, cond_false])
theorem szGateObject : ∃ m : GateObject → Int → Int, ∀ x n, Spec P 58 [st x.e, .d (.int .i64 n)] (.d (.int .i64 (m x n))) := by
  obtain ⟨m0, hm0⟩ := szStringS
  refine ⟨fun x n => szB (IntKind.i64.wrap (n - (x.kind.length : Int))) fun n => szB (IntKind.i64.wrap (n - (x.name.length : Int))) fun n => szB (IntKind.i64.wrap (n - (x.team.length : Int))) fun n => szB (m0 x.values n) fun n => szB (m0 x.holds n) fun n => n, fun x n => ?_⟩
  refine Spec.of_vc vcT vcM [.tmp 4] Tryz.func58 rfl rfl rfl rfl (fun hok => ?_)
  refine And.intro (fun h => nd (by simp only [szB, h, *, cond_true, cond_false])) (fun h0 => ?_)
  refine And.intro (fun h => nd (by simp only [szB, h, *, cond_true, cond_false])) (fun h1 => ?_)
  refine And.intro (fun h => nd (by simp only [szB, h, *, cond_true, cond_false])) (fun h2 => ?_)
  repeat refine And.intro rfl ?_
  refine Or.inl (Exists.intro _ (And.intro (hm0 _ _) ?_))
  refine And.intro (fun h => nd (by simp only [szB, h, *, cond_true, cond_false])) (fun h3 => ?_)
  repeat refine And.intro rfl ?_
  refine Or.inl (Exists.intro _ (And.intro (hm0 _ _) ?_))
  refine And.intro (fun h => nd (by simp only [szB, h, *, cond_true, cond_false])) (fun h4 => ?_)
  exact nd (by simp only [szB, *, cond_true, cond_false])
theorem szGateObjectS : ∃ m : List GateObject → Int → Int, ∀ x n, Spec P 26 [.d (lGateObject x), .d (.int .i64 n)] (.d (.int .i64 (m x n))) := by
  obtain ⟨m, hm⟩ := szGateObject
  refine ⟨fun x n => szB (IntKind.i64.wrap (n - ((x.map GateObject.e).length : Int))) fun n => szL m x n, fun xs n => ?_⟩
  refine Spec.of_vc vcT vcM [.tmp 4] Tryz.func26 rfl rfl rfl rfl (fun hok => ?_)
  have hs : xs.length ≤ big := by have := hok.1.1; rwa [List.length_map] at this
  refine And.intro (fun h => nd (by simp only [szB, h, cond_true, cond_false])) (fun h => ?_)
  simp only [szB, h, cond_true, cond_false]
  refine ⟨fun k l h => ∃ (i : Nat) (v : Int), k = xs.length - i ∧ i ≤ xs.length ∧ szL m xs (IntKind.i64.wrap (n - ((xs.map GateObject.e).length : Int))) = szL m (xs.drop i) v ∧ l = [(0, .d (lGateObject xs)), (1, .d (.int .i64 v)), (5, .d (.int .i64 i))] ∧ h = hp0,
    ⟨_, _, _, ⟨0, _, rfl, Nat.zero_le _, rfl, rfl, rfl⟩, rfl, rfl, ⟨rfl, rfl, rfl, trivial⟩, trivial, trivial⟩, ?_⟩
  rintro k l h1 ⟨i, v, rfl, hi, hr, rfl, rfl⟩
  refine And.intro (fun h1 => ?_) (fun h1 => ?_)
  · have hlt : i < xs.length := lt_map h1
    repeat refine And.intro rfl ?_
    refine ix_at (e := GateObject.e) (xs := xs) (hlt) rfl ?_
    repeat refine And.intro rfl ?_
    repeat refine And.intro rfl ?_
    refine Or.inl (Exists.intro _ (And.intro (hm _ _) ?_))
    refine And.intro (fun h2 => ?_) (fun h2 => ?_)
    · refine nd ?_
      rw [hr, szL_step hlt]
      simp only [szB, h2, cond_true]
    · refine ⟨_, _, _, ⟨i + 1, _, rfl, hlt, ?_, rfl, rfl⟩, by omega, rfl, rfl, ⟨rfl, rfl, nd (wrap_succ hlt hs), trivial⟩, trivial, trivial⟩
      rw [hr, szL_step hlt]
      simp only [szB, h2, cond_false]
  · refine nd ?_
    rw [hr, List.drop_of_length_le (ge_map h1)]; rfl
theorem szGateRule : ∃ m : GateRule → Int → Int, ∀ x n, Spec P 103 [st x.e, .d (.int .i64 n)] (.d (.int .i64 (m x n))) := by
  obtain ⟨m0, hm0⟩ := szIntS
  refine ⟨fun x n => szB (m0 x.verbs n) fun n => szB (IntKind.i64.wrap (n - (x.kind.length : Int))) fun n => szB (IntKind.i64.wrap (n - (x.team.length : Int))) fun n => szB (IntKind.i64.wrap (n - (x.prefix_.length : Int))) fun n => n, fun x n => ?_⟩
  refine Spec.of_vc vcT vcM [.tmp 4] Tryz.func103 rfl rfl rfl rfl (fun hok => ?_)
  repeat refine And.intro rfl ?_
  refine Or.inl (Exists.intro _ (And.intro (hm0 _ _) ?_))
  refine And.intro (fun h => nd (by simp only [szB, h, *, cond_true, cond_false])) (fun h0 => ?_)
  refine And.intro (fun h => nd (by simp only [szB, h, *, cond_true, cond_false])) (fun h1 => ?_)
  refine And.intro (fun h => nd (by simp only [szB, h, *, cond_true, cond_false])) (fun h2 => ?_)
  refine And.intro (fun h => nd (by simp only [szB, h, *, cond_true, cond_false])) (fun h3 => ?_)
  exact nd (by simp only [szB, *, cond_true, cond_false])
theorem szGateGrant : ∃ m : GateGrant → Int → Int, ∀ x n, Spec P 59 [st x.e, .d (.int .i64 n)] (.d (.int .i64 (m x n))) := by
  obtain ⟨m0, hm0⟩ := szGateRule
  refine ⟨fun x n => szB (IntKind.i64.wrap (n - (x.to_.length : Int))) fun n => szB (IntKind.i64.wrap (n - (x.by_.length : Int))) fun n => szB (m0 x.rule n) fun n => n, fun x n => ?_⟩
  refine Spec.of_vc vcT vcM [.tmp 4] Tryz.func59 rfl rfl rfl rfl (fun hok => ?_)
  refine And.intro (fun h => nd (by simp only [szB, h, *, cond_true, cond_false])) (fun h0 => ?_)
  refine And.intro (fun h => nd (by simp only [szB, h, *, cond_true, cond_false])) (fun h1 => ?_)
  repeat refine And.intro rfl ?_
  refine Or.inl (Exists.intro _ (And.intro (hm0 _ _) ?_))
  refine And.intro (fun h => nd (by simp only [szB, h, *, cond_true, cond_false])) (fun h2 => ?_)
  exact nd (by simp only [szB, *, cond_true, cond_false])
theorem szGateGrantS : ∃ m : List GateGrant → Int → Int, ∀ x n, Spec P 27 [.d (lGateGrant x), .d (.int .i64 n)] (.d (.int .i64 (m x n))) := by
  obtain ⟨m, hm⟩ := szGateGrant
  refine ⟨fun x n => szB (IntKind.i64.wrap (n - ((x.map GateGrant.e).length : Int))) fun n => szL m x n, fun xs n => ?_⟩
  refine Spec.of_vc vcT vcM [.tmp 4] Tryz.func27 rfl rfl rfl rfl (fun hok => ?_)
  have hs : xs.length ≤ big := by have := hok.1.1; rwa [List.length_map] at this
  refine And.intro (fun h => nd (by simp only [szB, h, cond_true, cond_false])) (fun h => ?_)
  simp only [szB, h, cond_true, cond_false]
  refine ⟨fun k l h => ∃ (i : Nat) (v : Int), k = xs.length - i ∧ i ≤ xs.length ∧ szL m xs (IntKind.i64.wrap (n - ((xs.map GateGrant.e).length : Int))) = szL m (xs.drop i) v ∧ l = [(0, .d (lGateGrant xs)), (1, .d (.int .i64 v)), (5, .d (.int .i64 i))] ∧ h = hp0,
    ⟨_, _, _, ⟨0, _, rfl, Nat.zero_le _, rfl, rfl, rfl⟩, rfl, rfl, ⟨rfl, rfl, rfl, trivial⟩, trivial, trivial⟩, ?_⟩
  rintro k l h1 ⟨i, v, rfl, hi, hr, rfl, rfl⟩
  refine And.intro (fun h1 => ?_) (fun h1 => ?_)
  · have hlt : i < xs.length := lt_map h1
    repeat refine And.intro rfl ?_
    refine ix_at (e := GateGrant.e) (xs := xs) (hlt) rfl ?_
    repeat refine And.intro rfl ?_
    repeat refine And.intro rfl ?_
    refine Or.inl (Exists.intro _ (And.intro (hm _ _) ?_))
    refine And.intro (fun h2 => ?_) (fun h2 => ?_)
    · refine nd ?_
      rw [hr, szL_step hlt]
      simp only [szB, h2, cond_true]
    · refine ⟨_, _, _, ⟨i + 1, _, rfl, hlt, ?_, rfl, rfl⟩, by omega, rfl, rfl, ⟨rfl, rfl, nd (wrap_succ hlt hs), trivial⟩, trivial, trivial⟩
      rw [hr, szL_step hlt]
      simp only [szB, h2, cond_false]
  · refine nd ?_
    rw [hr, List.drop_of_length_le (ge_map h1)]; rfl
theorem szGateLedger : ∃ m : GateLedger → Int → Int, ∀ x n, Spec P 60 [st x.e, .d (.int .i64 n)] (.d (.int .i64 (m x n))) := by
  refine ⟨fun x n => szB (IntKind.i64.wrap (n - (x.team.length : Int))) fun n => szB (IntKind.i64.wrap (n - (x.resource.length : Int))) fun n => n, fun x n => ?_⟩
  refine Spec.of_vc vcT vcM [.tmp 4] Tryz.func60 rfl rfl rfl rfl (fun hok => ?_)
  refine And.intro (fun h => nd (by simp only [szB, h, *, cond_true, cond_false])) (fun h0 => ?_)
  refine And.intro (fun h => nd (by simp only [szB, h, *, cond_true, cond_false])) (fun h1 => ?_)
  exact nd (by simp only [szB, *, cond_true, cond_false])
theorem szGateLedgerS : ∃ m : List GateLedger → Int → Int, ∀ x n, Spec P 28 [.d (lGateLedger x), .d (.int .i64 n)] (.d (.int .i64 (m x n))) := by
  obtain ⟨m, hm⟩ := szGateLedger
  refine ⟨fun x n => szB (IntKind.i64.wrap (n - ((x.map GateLedger.e).length : Int))) fun n => szL m x n, fun xs n => ?_⟩
  refine Spec.of_vc vcT vcM [.tmp 4] Tryz.func28 rfl rfl rfl rfl (fun hok => ?_)
  have hs : xs.length ≤ big := by have := hok.1.1; rwa [List.length_map] at this
  refine And.intro (fun h => nd (by simp only [szB, h, cond_true, cond_false])) (fun h => ?_)
  simp only [szB, h, cond_true, cond_false]
  refine ⟨fun k l h => ∃ (i : Nat) (v : Int), k = xs.length - i ∧ i ≤ xs.length ∧ szL m xs (IntKind.i64.wrap (n - ((xs.map GateLedger.e).length : Int))) = szL m (xs.drop i) v ∧ l = [(0, .d (lGateLedger xs)), (1, .d (.int .i64 v)), (5, .d (.int .i64 i))] ∧ h = hp0,
    ⟨_, _, _, ⟨0, _, rfl, Nat.zero_le _, rfl, rfl, rfl⟩, rfl, rfl, ⟨rfl, rfl, rfl, trivial⟩, trivial, trivial⟩, ?_⟩
  rintro k l h1 ⟨i, v, rfl, hi, hr, rfl, rfl⟩
  refine And.intro (fun h1 => ?_) (fun h1 => ?_)
  · have hlt : i < xs.length := lt_map h1
    repeat refine And.intro rfl ?_
    refine ix_at (e := GateLedger.e) (xs := xs) (hlt) rfl ?_
    repeat refine And.intro rfl ?_
    repeat refine And.intro rfl ?_
    refine Or.inl (Exists.intro _ (And.intro (hm _ _) ?_))
    refine And.intro (fun h2 => ?_) (fun h2 => ?_)
    · refine nd ?_
      rw [hr, szL_step hlt]
      simp only [szB, h2, cond_true]
    · refine ⟨_, _, _, ⟨i + 1, _, rfl, hlt, ?_, rfl, rfl⟩, by omega, rfl, rfl, ⟨rfl, rfl, nd (wrap_succ hlt hs), trivial⟩, trivial, trivial⟩
      rw [hr, szL_step hlt]
      simp only [szB, h2, cond_false]
  · refine nd ?_
    rw [hr, List.drop_of_length_le (ge_map h1)]; rfl
theorem szGatePurse : ∃ m : GatePurse → Int → Int, ∀ x n, Spec P 61 [st x.e, .d (.int .i64 n)] (.d (.int .i64 (m x n))) := by
  refine ⟨fun x n => szB (IntKind.i64.wrap (n - (x.door.length : Int))) fun n => szB (IntKind.i64.wrap (n - (x.team.length : Int))) fun n => szB (IntKind.i64.wrap (n - (x.resource.length : Int))) fun n => n, fun x n => ?_⟩
  refine Spec.of_vc vcT vcM [.tmp 4] Tryz.func61 rfl rfl rfl rfl (fun hok => ?_)
  refine And.intro (fun h => nd (by simp only [szB, h, *, cond_true, cond_false])) (fun h0 => ?_)
  refine And.intro (fun h => nd (by simp only [szB, h, *, cond_true, cond_false])) (fun h1 => ?_)
  refine And.intro (fun h => nd (by simp only [szB, h, *, cond_true, cond_false])) (fun h2 => ?_)
  exact nd (by simp only [szB, *, cond_true, cond_false])
theorem szGatePurseS : ∃ m : List GatePurse → Int → Int, ∀ x n, Spec P 29 [.d (lGatePurse x), .d (.int .i64 n)] (.d (.int .i64 (m x n))) := by
  obtain ⟨m, hm⟩ := szGatePurse
  refine ⟨fun x n => szB (IntKind.i64.wrap (n - ((x.map GatePurse.e).length : Int))) fun n => szL m x n, fun xs n => ?_⟩
  refine Spec.of_vc vcT vcM [.tmp 4] Tryz.func29 rfl rfl rfl rfl (fun hok => ?_)
  have hs : xs.length ≤ big := by have := hok.1.1; rwa [List.length_map] at this
  refine And.intro (fun h => nd (by simp only [szB, h, cond_true, cond_false])) (fun h => ?_)
  simp only [szB, h, cond_true, cond_false]
  refine ⟨fun k l h => ∃ (i : Nat) (v : Int), k = xs.length - i ∧ i ≤ xs.length ∧ szL m xs (IntKind.i64.wrap (n - ((xs.map GatePurse.e).length : Int))) = szL m (xs.drop i) v ∧ l = [(0, .d (lGatePurse xs)), (1, .d (.int .i64 v)), (5, .d (.int .i64 i))] ∧ h = hp0,
    ⟨_, _, _, ⟨0, _, rfl, Nat.zero_le _, rfl, rfl, rfl⟩, rfl, rfl, ⟨rfl, rfl, rfl, trivial⟩, trivial, trivial⟩, ?_⟩
  rintro k l h1 ⟨i, v, rfl, hi, hr, rfl, rfl⟩
  refine And.intro (fun h1 => ?_) (fun h1 => ?_)
  · have hlt : i < xs.length := lt_map h1
    repeat refine And.intro rfl ?_
    refine ix_at (e := GatePurse.e) (xs := xs) (hlt) rfl ?_
    repeat refine And.intro rfl ?_
    repeat refine And.intro rfl ?_
    refine Or.inl (Exists.intro _ (And.intro (hm _ _) ?_))
    refine And.intro (fun h2 => ?_) (fun h2 => ?_)
    · refine nd ?_
      rw [hr, szL_step hlt]
      simp only [szB, h2, cond_true]
    · refine ⟨_, _, _, ⟨i + 1, _, rfl, hlt, ?_, rfl, rfl⟩, by omega, rfl, rfl, ⟨rfl, rfl, nd (wrap_succ hlt hs), trivial⟩, trivial, trivial⟩
      rw [hr, szL_step hlt]
      simp only [szB, h2, cond_false]
  · refine nd ?_
    rw [hr, List.drop_of_length_le (ge_map h1)]; rfl
theorem szGateBook : ∃ m : GateBook → Int → Int, ∀ x n, Spec P 7 [st x.e, .d (.int .i64 n)] (.d (.int .i64 (m x n))) := by
  obtain ⟨m0, hm0⟩ := szGateObjectS
  obtain ⟨m1, hm1⟩ := szGateGrantS
  obtain ⟨m2, hm2⟩ := szGateLedgerS
  obtain ⟨m3, hm3⟩ := szGatePurseS
  refine ⟨fun x n => szB (m0 x.objects n) fun n => szB (m1 x.grants n) fun n => szB (m2 x.ledgers n) fun n => szB (m3 x.purses n) fun n => n, fun x n => ?_⟩
  refine Spec.of_vc vcT vcM [.tmp 4] Tryz.func7 rfl rfl rfl rfl (fun hok => ?_)
  repeat refine And.intro rfl ?_
  refine Or.inl (Exists.intro _ (And.intro (hm0 _ _) ?_))
  refine And.intro (fun h => nd (by simp only [szB, h, *, cond_true, cond_false])) (fun h0 => ?_)
  repeat refine And.intro rfl ?_
  refine Or.inl (Exists.intro _ (And.intro (hm1 _ _) ?_))
  refine And.intro (fun h => nd (by simp only [szB, h, *, cond_true, cond_false])) (fun h1 => ?_)
  repeat refine And.intro rfl ?_
  refine Or.inl (Exists.intro _ (And.intro (hm2 _ _) ?_))
  refine And.intro (fun h => nd (by simp only [szB, h, *, cond_true, cond_false])) (fun h2 => ?_)
  repeat refine And.intro rfl ?_
  refine Or.inl (Exists.intro _ (And.intro (hm3 _ _) ?_))
  refine And.intro (fun h => nd (by simp only [szB, h, *, cond_true, cond_false])) (fun h3 => ?_)
  exact nd (by simp only [szB, *, cond_true, cond_false])
theorem szGateAsk : ∃ m : GateAsk → Int → Int, ∀ x n, Spec P 207 [st x.e, .d (.int .i64 n)] (.d (.int .i64 (m x n))) := by
  obtain ⟨m0, hm0⟩ := szStringS
  obtain ⟨m1, hm1⟩ := szGateRule
  refine ⟨fun x n => szB (IntKind.i64.wrap (n - (x.who.length : Int))) fun n => szB (IntKind.i64.wrap (n - (x.kind.length : Int))) fun n => szB (IntKind.i64.wrap (n - (x.name.length : Int))) fun n => szB (IntKind.i64.wrap (n - (x.team.length : Int))) fun n => szB (m0 x.values n) fun n => szB (m0 x.holds n) fun n => szB (IntKind.i64.wrap (n - (x.hold.length : Int))) fun n => szB (IntKind.i64.wrap (n - (x.to_.length : Int))) fun n => szB (m1 x.rule n) fun n => n, fun x n => ?_⟩
  refine Spec.of_vc vcT vcM [.tmp 4] Tryz.func207 rfl rfl rfl rfl (fun hok => ?_)
  refine And.intro (fun h => nd (by simp only [szB, h, *, cond_true, cond_false])) (fun h0 => ?_)
  refine And.intro (fun h => nd (by simp only [szB, h, *, cond_true, cond_false])) (fun h1 => ?_)
  refine And.intro (fun h => nd (by simp only [szB, h, *, cond_true, cond_false])) (fun h2 => ?_)
  refine And.intro (fun h => nd (by simp only [szB, h, *, cond_true, cond_false])) (fun h3 => ?_)
  repeat refine And.intro rfl ?_
  refine Or.inl (Exists.intro _ (And.intro (hm0 _ _) ?_))
  refine And.intro (fun h => nd (by simp only [szB, h, *, cond_true, cond_false])) (fun h4 => ?_)
  repeat refine And.intro rfl ?_
  refine Or.inl (Exists.intro _ (And.intro (hm0 _ _) ?_))
  refine And.intro (fun h => nd (by simp only [szB, h, *, cond_true, cond_false])) (fun h5 => ?_)
  refine And.intro (fun h => nd (by simp only [szB, h, *, cond_true, cond_false])) (fun h6 => ?_)
  refine And.intro (fun h => nd (by simp only [szB, h, *, cond_true, cond_false])) (fun h7 => ?_)
  repeat refine And.intro rfl ?_
  refine Or.inl (Exists.intro _ (And.intro (hm1 _ _) ?_))
  refine And.intro (fun h => nd (by simp only [szB, h, *, cond_true, cond_false])) (fun h8 => ?_)
  exact nd (by simp only [szB, *, cond_true, cond_false])
theorem szGateWant : ∃ m : GateWant → Int → Int, ∀ x n, Spec P 220 [st x.e, .d (.int .i64 n)] (.d (.int .i64 (m x n))) := by
  refine ⟨fun x n => szB (IntKind.i64.wrap (n - (x.kind.length : Int))) fun n => szB (IntKind.i64.wrap (n - (x.name.length : Int))) fun n => n, fun x n => ?_⟩
  refine Spec.of_vc vcT vcM [.tmp 4] Tryz.func220 rfl rfl rfl rfl (fun hok => ?_)
  refine And.intro (fun h => nd (by simp only [szB, h, *, cond_true, cond_false])) (fun h0 => ?_)
  refine And.intro (fun h => nd (by simp only [szB, h, *, cond_true, cond_false])) (fun h1 => ?_)
  exact nd (by simp only [szB, *, cond_true, cond_false])
theorem szGateWantS : ∃ m : List GateWant → Int → Int, ∀ x n, Spec P 208 [.d (lGateWant x), .d (.int .i64 n)] (.d (.int .i64 (m x n))) := by
  obtain ⟨m, hm⟩ := szGateWant
  refine ⟨fun x n => szB (IntKind.i64.wrap (n - ((x.map GateWant.e).length : Int))) fun n => szL m x n, fun xs n => ?_⟩
  refine Spec.of_vc vcT vcM [.tmp 4] Tryz.func208 rfl rfl rfl rfl (fun hok => ?_)
  have hs : xs.length ≤ big := by have := hok.1.1; rwa [List.length_map] at this
  refine And.intro (fun h => nd (by simp only [szB, h, cond_true, cond_false])) (fun h => ?_)
  simp only [szB, h, cond_true, cond_false]
  refine ⟨fun k l h => ∃ (i : Nat) (v : Int), k = xs.length - i ∧ i ≤ xs.length ∧ szL m xs (IntKind.i64.wrap (n - ((xs.map GateWant.e).length : Int))) = szL m (xs.drop i) v ∧ l = [(0, .d (lGateWant xs)), (1, .d (.int .i64 v)), (5, .d (.int .i64 i))] ∧ h = hp0,
    ⟨_, _, _, ⟨0, _, rfl, Nat.zero_le _, rfl, rfl, rfl⟩, rfl, rfl, ⟨rfl, rfl, rfl, trivial⟩, trivial, trivial⟩, ?_⟩
  rintro k l h1 ⟨i, v, rfl, hi, hr, rfl, rfl⟩
  refine And.intro (fun h1 => ?_) (fun h1 => ?_)
  · have hlt : i < xs.length := lt_map h1
    repeat refine And.intro rfl ?_
    refine ix_at (e := GateWant.e) (xs := xs) (hlt) rfl ?_
    repeat refine And.intro rfl ?_
    repeat refine And.intro rfl ?_
    refine Or.inl (Exists.intro _ (And.intro (hm _ _) ?_))
    refine And.intro (fun h2 => ?_) (fun h2 => ?_)
    · refine nd ?_
      rw [hr, szL_step hlt]
      simp only [szB, h2, cond_true]
    · refine ⟨_, _, _, ⟨i + 1, _, rfl, hlt, ?_, rfl, rfl⟩, by omega, rfl, rfl, ⟨rfl, rfl, nd (wrap_succ hlt hs), trivial⟩, trivial, trivial⟩
      rw [hr, szL_step hlt]
      simp only [szB, h2, cond_false]
  · refine nd ?_
    rw [hr, List.drop_of_length_le (ge_map h1)]; rfl
theorem szGateSlip : ∃ m : GateSlip → Int → Int, ∀ x n, Spec P 179 [st x.e, .d (.int .i64 n)] (.d (.int .i64 (m x n))) := by
  obtain ⟨m0, hm0⟩ := szGateAsk
  obtain ⟨m1, hm1⟩ := szGateWantS
  refine ⟨fun x n => szB (IntKind.i64.wrap (n - (x.door.length : Int))) fun n => szB (m0 x.ask n) fun n => szB (m1 x.wants n) fun n => n, fun x n => ?_⟩
  refine Spec.of_vc vcT vcM [.tmp 4] Tryz.func179 rfl rfl rfl rfl (fun hok => ?_)
  refine And.intro (fun h => nd (by simp only [szB, h, *, cond_true, cond_false])) (fun h0 => ?_)
  repeat refine And.intro rfl ?_
  refine Or.inl (Exists.intro _ (And.intro (hm0 _ _) ?_))
  refine And.intro (fun h => nd (by simp only [szB, h, *, cond_true, cond_false])) (fun h1 => ?_)
  repeat refine And.intro rfl ?_
  refine Or.inl (Exists.intro _ (And.intro (hm1 _ _) ?_))
  refine And.intro (fun h => nd (by simp only [szB, h, *, cond_true, cond_false])) (fun h2 => ?_)
  exact nd (by simp only [szB, *, cond_true, cond_false])
theorem szGateSlipS : ∃ m : List GateSlip → Int → Int, ∀ x n, Spec P 137 [.d (lGateSlip x), .d (.int .i64 n)] (.d (.int .i64 (m x n))) := by
  obtain ⟨m, hm⟩ := szGateSlip
  refine ⟨fun x n => szB (IntKind.i64.wrap (n - ((x.map GateSlip.e).length : Int))) fun n => szL m x n, fun xs n => ?_⟩
  refine Spec.of_vc vcT vcM [.tmp 4] Tryz.func137 rfl rfl rfl rfl (fun hok => ?_)
  have hs : xs.length ≤ big := by have := hok.1.1; rwa [List.length_map] at this
  refine And.intro (fun h => nd (by simp only [szB, h, cond_true, cond_false])) (fun h => ?_)
  simp only [szB, h, cond_true, cond_false]
  refine ⟨fun k l h => ∃ (i : Nat) (v : Int), k = xs.length - i ∧ i ≤ xs.length ∧ szL m xs (IntKind.i64.wrap (n - ((xs.map GateSlip.e).length : Int))) = szL m (xs.drop i) v ∧ l = [(0, .d (lGateSlip xs)), (1, .d (.int .i64 v)), (5, .d (.int .i64 i))] ∧ h = hp0,
    ⟨_, _, _, ⟨0, _, rfl, Nat.zero_le _, rfl, rfl, rfl⟩, rfl, rfl, ⟨rfl, rfl, rfl, trivial⟩, trivial, trivial⟩, ?_⟩
  rintro k l h1 ⟨i, v, rfl, hi, hr, rfl, rfl⟩
  refine And.intro (fun h1 => ?_) (fun h1 => ?_)
  · have hlt : i < xs.length := lt_map h1
    repeat refine And.intro rfl ?_
    refine ix_at (e := GateSlip.e) (xs := xs) (hlt) rfl ?_
    repeat refine And.intro rfl ?_
    repeat refine And.intro rfl ?_
    refine Or.inl (Exists.intro _ (And.intro (hm _ _) ?_))
    refine And.intro (fun h2 => ?_) (fun h2 => ?_)
    · refine nd ?_
      rw [hr, szL_step hlt]
      simp only [szB, h2, cond_true]
    · refine ⟨_, _, _, ⟨i + 1, _, rfl, hlt, ?_, rfl, rfl⟩, by omega, rfl, rfl, ⟨rfl, rfl, nd (wrap_succ hlt hs), trivial⟩, trivial, trivial⟩
      rw [hr, szL_step hlt]
      simp only [szB, h2, cond_false]
  · refine nd ?_
    rw [hr, List.drop_of_length_le (ge_map h1)]; rfl
theorem szGateDoor : ∃ m : GateDoor → Int → Int, ∀ x n, Spec P 89 [st x.e, .d (.int .i64 n)] (.d (.int .i64 (m x n))) := by
  obtain ⟨m0, hm0⟩ := szGateBook
  obtain ⟨m1, hm1⟩ := szGateSlipS
  refine ⟨fun x n => szB (IntKind.i64.wrap (n - (x.name.length : Int))) fun n => szB (m0 x.view n) fun n => szB (m1 x.slips n) fun n => n, fun x n => ?_⟩
  refine Spec.of_vc vcT vcM [.tmp 4] Tryz.func89 rfl rfl rfl rfl (fun hok => ?_)
  refine And.intro (fun h => nd (by simp only [szB, h, *, cond_true, cond_false])) (fun h0 => ?_)
  repeat refine And.intro rfl ?_
  refine Or.inl (Exists.intro _ (And.intro (hm0 _ _) ?_))
  refine And.intro (fun h => nd (by simp only [szB, h, *, cond_true, cond_false])) (fun h1 => ?_)
  repeat refine And.intro rfl ?_
  refine Or.inl (Exists.intro _ (And.intro (hm1 _ _) ?_))
  refine And.intro (fun h => nd (by simp only [szB, h, *, cond_true, cond_false])) (fun h2 => ?_)
  exact nd (by simp only [szB, *, cond_true, cond_false])
theorem szGateDoorS : ∃ m : List GateDoor → Int → Int, ∀ x n, Spec P 48 [.d (lGateDoor x), .d (.int .i64 n)] (.d (.int .i64 (m x n))) := by
  obtain ⟨m, hm⟩ := szGateDoor
  refine ⟨fun x n => szB (IntKind.i64.wrap (n - ((x.map GateDoor.e).length : Int))) fun n => szL m x n, fun xs n => ?_⟩
  refine Spec.of_vc vcT vcM [.tmp 4] Tryz.func48 rfl rfl rfl rfl (fun hok => ?_)
  have hs : xs.length ≤ big := by have := hok.1.1; rwa [List.length_map] at this
  refine And.intro (fun h => nd (by simp only [szB, h, cond_true, cond_false])) (fun h => ?_)
  simp only [szB, h, cond_true, cond_false]
  refine ⟨fun k l h => ∃ (i : Nat) (v : Int), k = xs.length - i ∧ i ≤ xs.length ∧ szL m xs (IntKind.i64.wrap (n - ((xs.map GateDoor.e).length : Int))) = szL m (xs.drop i) v ∧ l = [(0, .d (lGateDoor xs)), (1, .d (.int .i64 v)), (5, .d (.int .i64 i))] ∧ h = hp0,
    ⟨_, _, _, ⟨0, _, rfl, Nat.zero_le _, rfl, rfl, rfl⟩, rfl, rfl, ⟨rfl, rfl, rfl, trivial⟩, trivial, trivial⟩, ?_⟩
  rintro k l h1 ⟨i, v, rfl, hi, hr, rfl, rfl⟩
  refine And.intro (fun h1 => ?_) (fun h1 => ?_)
  · have hlt : i < xs.length := lt_map h1
    repeat refine And.intro rfl ?_
    refine ix_at (e := GateDoor.e) (xs := xs) (hlt) rfl ?_
    repeat refine And.intro rfl ?_
    repeat refine And.intro rfl ?_
    refine Or.inl (Exists.intro _ (And.intro (hm _ _) ?_))
    refine And.intro (fun h2 => ?_) (fun h2 => ?_)
    · refine nd ?_
      rw [hr, szL_step hlt]
      simp only [szB, h2, cond_true]
    · refine ⟨_, _, _, ⟨i + 1, _, rfl, hlt, ?_, rfl, rfl⟩, by omega, rfl, rfl, ⟨rfl, rfl, nd (wrap_succ hlt hs), trivial⟩, trivial, trivial⟩
      rw [hr, szL_step hlt]
      simp only [szB, h2, cond_false]
  · refine nd ?_
    rw [hr, List.drop_of_length_le (ge_map h1)]; rfl
theorem szGateWorld : ∃ m : GateWorld → Int → Int, ∀ x n, Spec P 16 [st x.e, .d (.int .i64 n)] (.d (.int .i64 (m x n))) := by
  obtain ⟨m0, hm0⟩ := szGateBook
  obtain ⟨m1, hm1⟩ := szGateDoorS
  refine ⟨fun x n => szB (m0 x.book n) fun n => szB (m1 x.doors n) fun n => n, fun x n => ?_⟩
  refine Spec.of_vc vcT vcM [.tmp 4] Tryz.func16 rfl rfl rfl rfl (fun hok => ?_)
  repeat refine And.intro rfl ?_
  refine Or.inl (Exists.intro _ (And.intro (hm0 _ _) ?_))
  refine And.intro (fun h => nd (by simp only [szB, h, *, cond_true, cond_false])) (fun h0 => ?_)
  repeat refine And.intro rfl ?_
  refine Or.inl (Exists.intro _ (And.intro (hm1 _ _) ?_))
  refine And.intro (fun h => nd (by simp only [szB, h, *, cond_true, cond_false])) (fun h1 => ?_)
  exact nd (by simp only [szB, *, cond_true, cond_false])
theorem szGateAct : ∃ m : GateAct → Int → Int, ∀ x n, Spec P 8 [st x.e, .d (.int .i64 n)] (.d (.int .i64 (m x n))) := by
  refine ⟨fun x n => szB (IntKind.i64.wrap (n - (x.kind.length : Int))) fun n => szB (IntKind.i64.wrap (n - (x.team.length : Int))) fun n => szB (IntKind.i64.wrap (n - (x.name.length : Int))) fun n => n, fun x n => ?_⟩
  refine Spec.of_vc vcT vcM [.tmp 4] Tryz.func8 rfl rfl rfl rfl (fun hok => ?_)
  refine And.intro (fun h => nd (by simp only [szB, h, *, cond_true, cond_false])) (fun h0 => ?_)
  refine And.intro (fun h => nd (by simp only [szB, h, *, cond_true, cond_false])) (fun h1 => ?_)
  refine And.intro (fun h => nd (by simp only [szB, h, *, cond_true, cond_false])) (fun h2 => ?_)
  exact nd (by simp only [szB, *, cond_true, cond_false])
theorem to_StringS (xs : List Bs) : Spec P 119 [.d (lS xs)] (.d (lS xs)) := by
  refine Spec.of_vc vcT vcM [.tmp 2] Tryz.func119 rfl rfl rfl rfl (fun hok => ?_)
  have hs : xs.length ≤ big := by have := hok.1.1; rwa [List.length_map] at this
  repeat refine And.intro rfl ?_
  refine And.intro (Int.natCast_nonneg _) (And.intro (Int.le_refl _) (And.intro (mk_ok hs) ?_))
  refine ⟨fun k l h => ∃ i : Nat, k = xs.length - i ∧ i ≤ xs.length ∧ l = [(0, .d (lS xs)), (3, .own 0), (4, .d (.int .i64 i))] ∧ h = ⟨[(0, .row 9 [D.str []].length (rowsAt eB xs [D.str []] i))], 1, 0⟩,
    ⟨_, _, _, ⟨0, rfl, Nat.zero_le _, rfl, rfl⟩, rfl, rfl, ⟨rfl, rfl, rfl, trivial⟩, ⟨rfl, trivial⟩, ⟨rowsAt_start, trivial⟩⟩, ?_⟩
  rintro k l h1 ⟨i, rfl, hi, rfl, rfl⟩
  refine And.intro (fun h1 => ?_) (fun h1 => ?_)
  · have hlt : i < xs.length := lt_map h1
    repeat refine And.intro rfl ?_
    refine ix_at (e := eB) (xs := xs) (hlt) rfl ?_
    repeat refine And.intro rfl ?_
    repeat refine And.intro rfl ?_
    refine And.intro (Int.natCast_nonneg _) (And.intro (by rw [rowsAt_len hi]; omega) ?_)
    repeat refine And.intro rfl ?_
    refine ⟨_, rowsAt_get hlt, Nat.le_refl _, ?_⟩
    exact ⟨_, _, _, ⟨i + 1, rfl, hlt, rfl, rfl⟩, by omega, rfl, rfl, ⟨rfl, rfl, nd (wrap_succ hlt hs), trivial⟩, ⟨rfl, trivial⟩, ⟨rowsAt_set hlt rfl, trivial⟩⟩
  · exact ld (rowsAt_end (ge_map h1) hi)
theorem to_IntS (xs : List Int) : Spec P 159 [.d (lI xs)] (.d (lI xs)) := by
  refine Spec.of_vc vcT vcM [.tmp 2] Tryz.func159 rfl rfl rfl rfl (fun hok => ?_)
  have hs : xs.length ≤ big := by have := hok.1.1; rwa [List.length_map] at this
  repeat refine And.intro rfl ?_
  refine And.intro (Int.natCast_nonneg _) (And.intro (Int.le_refl _) (And.intro (mk_ok hs) ?_))
  refine ⟨fun k l h => ∃ i : Nat, k = xs.length - i ∧ i ≤ xs.length ∧ l = [(0, .d (lI xs)), (3, .own 0), (4, .d (.int .i64 i))] ∧ h = ⟨[(0, .row 3 [D.int .i64 0].length (rowsAt eN xs [D.int .i64 0] i))], 1, 0⟩,
    ⟨_, _, _, ⟨0, rfl, Nat.zero_le _, rfl, rfl⟩, rfl, rfl, ⟨rfl, rfl, rfl, trivial⟩, ⟨rfl, trivial⟩, ⟨rowsAt_start, trivial⟩⟩, ?_⟩
  rintro k l h1 ⟨i, rfl, hi, rfl, rfl⟩
  refine And.intro (fun h1 => ?_) (fun h1 => ?_)
  · have hlt : i < xs.length := lt_map h1
    repeat refine And.intro rfl ?_
    refine ix_at (e := eN) (xs := xs) (hlt) rfl ?_
    repeat refine And.intro rfl ?_
    repeat refine And.intro rfl ?_
    refine And.intro (Int.natCast_nonneg _) (And.intro (by rw [rowsAt_len hi]; omega) ?_)
    repeat refine And.intro rfl ?_
    refine ⟨_, rowsAt_get hlt, Nat.le_refl _, ?_⟩
    exact ⟨_, _, _, ⟨i + 1, rfl, hlt, rfl, rfl⟩, by omega, rfl, rfl, ⟨rfl, rfl, nd (wrap_succ hlt hs), trivial⟩, ⟨rfl, trivial⟩, ⟨rowsAt_set hlt rfl, trivial⟩⟩
  · exact ld (rowsAt_end (ge_map h1) hi)
def GateField.z : List D := [.str [], .int .i64 0, .int .i64 0, .int .i64 0, .list [], .str [], .int .i64 0, .bool false, .bool false, .str [], .str []]
theorem to_GateField (x : GateField) : Spec P 158 [st x.e] (st x.e) := by
  refine Spec.of_vc vcT vcM [.cell 2 191] Tryz.func158 rfl rfl rfl rfl (fun hok => ?_)
  repeat refine And.intro rfl ?_
  refine Or.inl (Exists.intro _ (And.intro (to_StringS _) ?_))
  repeat refine And.intro rfl ?_
  rfl
theorem to_GateFieldS (xs : List GateField) : Spec P 118 [.d (lGateField xs)] (.d (lGateField xs)) := by
  refine Spec.of_vc vcT vcM [.tmp 2] Tryz.func118 rfl rfl rfl rfl (fun hok => ?_)
  have hs : xs.length ≤ big := by have := hok.1.1; rwa [List.length_map] at this
  repeat refine And.intro rfl ?_
  refine And.intro (Int.natCast_nonneg _) (And.intro (Int.le_refl _) (And.intro (mk_ok hs) ?_))
  refine ⟨fun k l h => ∃ i : Nat, k = xs.length - i ∧ i ≤ xs.length ∧ l = [(0, .d (lGateField xs)), (3, .own 0), (4, .d (.int .i64 i))] ∧ h = ⟨[(0, .row 191 GateField.z.length (rowsAt GateField.e xs GateField.z i))], 1, 0⟩,
    ⟨_, _, _, ⟨0, rfl, Nat.zero_le _, rfl, rfl⟩, rfl, rfl, ⟨rfl, rfl, rfl, trivial⟩, ⟨rfl, trivial⟩, ⟨rowsAt_start, trivial⟩⟩, ?_⟩
  rintro k l h1 ⟨i, rfl, hi, rfl, rfl⟩
  refine And.intro (fun h1 => ?_) (fun h1 => ?_)
  · have hlt : i < xs.length := lt_map h1
    repeat refine And.intro rfl ?_
    refine ix_at (e := GateField.e) (xs := xs) (hlt) rfl ?_
    repeat refine And.intro rfl ?_
    repeat refine And.intro rfl ?_
    refine Or.inl (Exists.intro _ (And.intro (to_GateField _) ?_))
    repeat refine And.intro rfl ?_
    refine And.intro (Int.natCast_nonneg _) (And.intro (by rw [rowsAt_len hi]; omega) ?_)
    repeat refine And.intro rfl ?_
    refine ⟨_, rowsAt_get hlt, Nat.le_refl _, ?_⟩
    exact ⟨_, _, _, ⟨i + 1, rfl, hlt, rfl, rfl⟩, by omega, rfl, rfl, ⟨rfl, rfl, nd (wrap_succ hlt hs), trivial⟩, ⟨rfl, trivial⟩, ⟨rowsAt_set hlt rfl, trivial⟩⟩
  · exact ld (rowsAt_end (ge_map h1) hi)
def GateShape.z : List D := [.str [], .list []]
theorem to_GateShape (x : GateShape) : Spec P 69 [st x.e] (st x.e) := by
  refine Spec.of_vc vcT vcM [.cell 2 139] Tryz.func69 rfl rfl rfl rfl (fun hok => ?_)
  repeat refine And.intro rfl ?_
  refine Or.inl (Exists.intro _ (And.intro (to_GateFieldS _) ?_))
  repeat refine And.intro rfl ?_
  rfl
theorem to_GateShapeS (xs : List GateShape) : Spec P 32 [.d (lGateShape xs)] (.d (lGateShape xs)) := by
  refine Spec.of_vc vcT vcM [.tmp 2] Tryz.func32 rfl rfl rfl rfl (fun hok => ?_)
  have hs : xs.length ≤ big := by have := hok.1.1; rwa [List.length_map] at this
  repeat refine And.intro rfl ?_
  refine And.intro (Int.natCast_nonneg _) (And.intro (Int.le_refl _) (And.intro (mk_ok hs) ?_))
  refine ⟨fun k l h => ∃ i : Nat, k = xs.length - i ∧ i ≤ xs.length ∧ l = [(0, .d (lGateShape xs)), (3, .own 0), (4, .d (.int .i64 i))] ∧ h = ⟨[(0, .row 139 GateShape.z.length (rowsAt GateShape.e xs GateShape.z i))], 1, 0⟩,
    ⟨_, _, _, ⟨0, rfl, Nat.zero_le _, rfl, rfl⟩, rfl, rfl, ⟨rfl, rfl, rfl, trivial⟩, ⟨rfl, trivial⟩, ⟨rowsAt_start, trivial⟩⟩, ?_⟩
  rintro k l h1 ⟨i, rfl, hi, rfl, rfl⟩
  refine And.intro (fun h1 => ?_) (fun h1 => ?_)
  · have hlt : i < xs.length := lt_map h1
    repeat refine And.intro rfl ?_
    refine ix_at (e := GateShape.e) (xs := xs) (hlt) rfl ?_
    repeat refine And.intro rfl ?_
    repeat refine And.intro rfl ?_
    refine Or.inl (Exists.intro _ (And.intro (to_GateShape _) ?_))
    repeat refine And.intro rfl ?_
    refine And.intro (Int.natCast_nonneg _) (And.intro (by rw [rowsAt_len hi]; omega) ?_)
    repeat refine And.intro rfl ?_
    refine ⟨_, rowsAt_get hlt, Nat.le_refl _, ?_⟩
    exact ⟨_, _, _, ⟨i + 1, rfl, hlt, rfl, rfl⟩, by omega, rfl, rfl, ⟨rfl, rfl, nd (wrap_succ hlt hs), trivial⟩, ⟨rfl, trivial⟩, ⟨rowsAt_set hlt rfl, trivial⟩⟩
  · exact ld (rowsAt_end (ge_map h1) hi)
def GateMend.z : List D := [.str [], .str [], .str [], .str [], .str [], .str []]
theorem to_GateMend (x : GateMend) : Spec P 70 [st x.e] (st x.e) := by
  refine Spec.of_vc vcT vcM [.cell 2 141] Tryz.func70 rfl rfl rfl rfl (fun hok => ?_)
  repeat refine And.intro rfl ?_
  rfl
theorem to_GateMendS (xs : List GateMend) : Spec P 33 [.d (lGateMend xs)] (.d (lGateMend xs)) := by
  refine Spec.of_vc vcT vcM [.tmp 2] Tryz.func33 rfl rfl rfl rfl (fun hok => ?_)
  have hs : xs.length ≤ big := by have := hok.1.1; rwa [List.length_map] at this
  repeat refine And.intro rfl ?_
  refine And.intro (Int.natCast_nonneg _) (And.intro (Int.le_refl _) (And.intro (mk_ok hs) ?_))
  refine ⟨fun k l h => ∃ i : Nat, k = xs.length - i ∧ i ≤ xs.length ∧ l = [(0, .d (lGateMend xs)), (3, .own 0), (4, .d (.int .i64 i))] ∧ h = ⟨[(0, .row 141 GateMend.z.length (rowsAt GateMend.e xs GateMend.z i))], 1, 0⟩,
    ⟨_, _, _, ⟨0, rfl, Nat.zero_le _, rfl, rfl⟩, rfl, rfl, ⟨rfl, rfl, rfl, trivial⟩, ⟨rfl, trivial⟩, ⟨rowsAt_start, trivial⟩⟩, ?_⟩
  rintro k l h1 ⟨i, rfl, hi, rfl, rfl⟩
  refine And.intro (fun h1 => ?_) (fun h1 => ?_)
  · have hlt : i < xs.length := lt_map h1
    repeat refine And.intro rfl ?_
    refine ix_at (e := GateMend.e) (xs := xs) (hlt) rfl ?_
    repeat refine And.intro rfl ?_
    repeat refine And.intro rfl ?_
    refine Or.inl (Exists.intro _ (And.intro (to_GateMend _) ?_))
    repeat refine And.intro rfl ?_
    refine And.intro (Int.natCast_nonneg _) (And.intro (by rw [rowsAt_len hi]; omega) ?_)
    repeat refine And.intro rfl ?_
    refine ⟨_, rowsAt_get hlt, Nat.le_refl _, ?_⟩
    exact ⟨_, _, _, ⟨i + 1, rfl, hlt, rfl, rfl⟩, by omega, rfl, rfl, ⟨rfl, rfl, nd (wrap_succ hlt hs), trivial⟩, ⟨rfl, trivial⟩, ⟨rowsAt_set hlt rfl, trivial⟩⟩
  · exact ld (rowsAt_end (ge_map h1) hi)
def GateTeam.z : List D := [.str [], .str []]
theorem to_GateTeam (x : GateTeam) : Spec P 71 [st x.e] (st x.e) := by
  refine Spec.of_vc vcT vcM [.cell 2 143] Tryz.func71 rfl rfl rfl rfl (fun hok => ?_)
  repeat refine And.intro rfl ?_
  rfl
theorem to_GateTeamS (xs : List GateTeam) : Spec P 34 [.d (lGateTeam xs)] (.d (lGateTeam xs)) := by
  refine Spec.of_vc vcT vcM [.tmp 2] Tryz.func34 rfl rfl rfl rfl (fun hok => ?_)
  have hs : xs.length ≤ big := by have := hok.1.1; rwa [List.length_map] at this
  repeat refine And.intro rfl ?_
  refine And.intro (Int.natCast_nonneg _) (And.intro (Int.le_refl _) (And.intro (mk_ok hs) ?_))
  refine ⟨fun k l h => ∃ i : Nat, k = xs.length - i ∧ i ≤ xs.length ∧ l = [(0, .d (lGateTeam xs)), (3, .own 0), (4, .d (.int .i64 i))] ∧ h = ⟨[(0, .row 143 GateTeam.z.length (rowsAt GateTeam.e xs GateTeam.z i))], 1, 0⟩,
    ⟨_, _, _, ⟨0, rfl, Nat.zero_le _, rfl, rfl⟩, rfl, rfl, ⟨rfl, rfl, rfl, trivial⟩, ⟨rfl, trivial⟩, ⟨rowsAt_start, trivial⟩⟩, ?_⟩
  rintro k l h1 ⟨i, rfl, hi, rfl, rfl⟩
  refine And.intro (fun h1 => ?_) (fun h1 => ?_)
  · have hlt : i < xs.length := lt_map h1
    repeat refine And.intro rfl ?_
    refine ix_at (e := GateTeam.e) (xs := xs) (hlt) rfl ?_
    repeat refine And.intro rfl ?_
    repeat refine And.intro rfl ?_
    refine Or.inl (Exists.intro _ (And.intro (to_GateTeam _) ?_))
    repeat refine And.intro rfl ?_
    refine And.intro (Int.natCast_nonneg _) (And.intro (by rw [rowsAt_len hi]; omega) ?_)
    repeat refine And.intro rfl ?_
    refine ⟨_, rowsAt_get hlt, Nat.le_refl _, ?_⟩
    exact ⟨_, _, _, ⟨i + 1, rfl, hlt, rfl, rfl⟩, by omega, rfl, rfl, ⟨rfl, rfl, nd (wrap_succ hlt hs), trivial⟩, ⟨rfl, trivial⟩, ⟨rowsAt_set hlt rfl, trivial⟩⟩
  · exact ld (rowsAt_end (ge_map h1) hi)
def GateLaw.z : List D := [.list [], .list [], .list []]
theorem to_GateLaw (x : GateLaw) : Spec P 10 [st x.e] (st x.e) := by
  refine Spec.of_vc vcT vcM [.cell 2 43] Tryz.func10 rfl rfl rfl rfl (fun hok => ?_)
  repeat refine And.intro rfl ?_
  refine Or.inl (Exists.intro _ (And.intro (to_GateShapeS _) ?_))
  repeat refine And.intro rfl ?_
  refine Or.inl (Exists.intro _ (And.intro (to_GateMendS _) ?_))
  repeat refine And.intro rfl ?_
  refine Or.inl (Exists.intro _ (And.intro (to_GateTeamS _) ?_))
  repeat refine And.intro rfl ?_
  rfl
def GateObject.z : List D := [.str [], .str [], .str [], .list [], .bool false, .list [], .int .i64 0]
theorem to_GateObject (x : GateObject) : Spec P 72 [st x.e] (st x.e) := by
  refine Spec.of_vc vcT vcM [.cell 2 145] Tryz.func72 rfl rfl rfl rfl (fun hok => ?_)
  repeat refine And.intro rfl ?_
  refine Or.inl (Exists.intro _ (And.intro (to_StringS _) ?_))
  repeat refine And.intro rfl ?_
  refine Or.inl (Exists.intro _ (And.intro (to_StringS _) ?_))
  repeat refine And.intro rfl ?_
  rfl
theorem to_GateObjectS (xs : List GateObject) : Spec P 35 [.d (lGateObject xs)] (.d (lGateObject xs)) := by
  refine Spec.of_vc vcT vcM [.tmp 2] Tryz.func35 rfl rfl rfl rfl (fun hok => ?_)
  have hs : xs.length ≤ big := by have := hok.1.1; rwa [List.length_map] at this
  repeat refine And.intro rfl ?_
  refine And.intro (Int.natCast_nonneg _) (And.intro (Int.le_refl _) (And.intro (mk_ok hs) ?_))
  refine ⟨fun k l h => ∃ i : Nat, k = xs.length - i ∧ i ≤ xs.length ∧ l = [(0, .d (lGateObject xs)), (3, .own 0), (4, .d (.int .i64 i))] ∧ h = ⟨[(0, .row 145 GateObject.z.length (rowsAt GateObject.e xs GateObject.z i))], 1, 0⟩,
    ⟨_, _, _, ⟨0, rfl, Nat.zero_le _, rfl, rfl⟩, rfl, rfl, ⟨rfl, rfl, rfl, trivial⟩, ⟨rfl, trivial⟩, ⟨rowsAt_start, trivial⟩⟩, ?_⟩
  rintro k l h1 ⟨i, rfl, hi, rfl, rfl⟩
  refine And.intro (fun h1 => ?_) (fun h1 => ?_)
  · have hlt : i < xs.length := lt_map h1
    repeat refine And.intro rfl ?_
    refine ix_at (e := GateObject.e) (xs := xs) (hlt) rfl ?_
    repeat refine And.intro rfl ?_
    repeat refine And.intro rfl ?_
    refine Or.inl (Exists.intro _ (And.intro (to_GateObject _) ?_))
    repeat refine And.intro rfl ?_
    refine And.intro (Int.natCast_nonneg _) (And.intro (by rw [rowsAt_len hi]; omega) ?_)
    repeat refine And.intro rfl ?_
    refine ⟨_, rowsAt_get hlt, Nat.le_refl _, ?_⟩
    exact ⟨_, _, _, ⟨i + 1, rfl, hlt, rfl, rfl⟩, by omega, rfl, rfl, ⟨rfl, rfl, nd (wrap_succ hlt hs), trivial⟩, ⟨rfl, trivial⟩, ⟨rowsAt_set hlt rfl, trivial⟩⟩
  · exact ld (rowsAt_end (ge_map h1) hi)
def GateRule.z : List D := [.list [], .str [], .str [], .str []]
theorem to_GateRule (x : GateRule) : Spec P 120 [st x.e] (st x.e) := by
  refine Spec.of_vc vcT vcM [.cell 2 103] Tryz.func120 rfl rfl rfl rfl (fun hok => ?_)
  repeat refine And.intro rfl ?_
  refine Or.inl (Exists.intro _ (And.intro (to_IntS _) ?_))
  repeat refine And.intro rfl ?_
  rfl
def GateGrant.z : List D := [.int .i64 0, .str [], .str [], .list [], .str [], .str [], .str []]
theorem to_GateGrant (x : GateGrant) : Spec P 73 [st x.e] (st x.e) := by
  refine Spec.of_vc vcT vcM [.cell 2 105] Tryz.func73 rfl rfl rfl rfl (fun hok => ?_)
  repeat refine And.intro rfl ?_
  refine Or.inl (Exists.intro _ (And.intro (to_GateRule _) ?_))
  repeat refine And.intro rfl ?_
  rfl
theorem to_GateGrantS (xs : List GateGrant) : Spec P 36 [.d (lGateGrant xs)] (.d (lGateGrant xs)) := by
  refine Spec.of_vc vcT vcM [.tmp 2] Tryz.func36 rfl rfl rfl rfl (fun hok => ?_)
  have hs : xs.length ≤ big := by have := hok.1.1; rwa [List.length_map] at this
  repeat refine And.intro rfl ?_
  refine And.intro (Int.natCast_nonneg _) (And.intro (Int.le_refl _) (And.intro (mk_ok hs) ?_))
  refine ⟨fun k l h => ∃ i : Nat, k = xs.length - i ∧ i ≤ xs.length ∧ l = [(0, .d (lGateGrant xs)), (3, .own 0), (4, .d (.int .i64 i))] ∧ h = ⟨[(0, .row 105 GateGrant.z.length (rowsAt GateGrant.e xs GateGrant.z i))], 1, 0⟩,
    ⟨_, _, _, ⟨0, rfl, Nat.zero_le _, rfl, rfl⟩, rfl, rfl, ⟨rfl, rfl, rfl, trivial⟩, ⟨rfl, trivial⟩, ⟨rowsAt_start, trivial⟩⟩, ?_⟩
  rintro k l h1 ⟨i, rfl, hi, rfl, rfl⟩
  refine And.intro (fun h1 => ?_) (fun h1 => ?_)
  · have hlt : i < xs.length := lt_map h1
    repeat refine And.intro rfl ?_
    refine ix_at (e := GateGrant.e) (xs := xs) (hlt) rfl ?_
    repeat refine And.intro rfl ?_
    repeat refine And.intro rfl ?_
    refine Or.inl (Exists.intro _ (And.intro (to_GateGrant _) ?_))
    repeat refine And.intro rfl ?_
    refine And.intro (Int.natCast_nonneg _) (And.intro (by rw [rowsAt_len hi]; omega) ?_)
    repeat refine And.intro rfl ?_
    refine ⟨_, rowsAt_get hlt, Nat.le_refl _, ?_⟩
    exact ⟨_, _, _, ⟨i + 1, rfl, hlt, rfl, rfl⟩, by omega, rfl, rfl, ⟨rfl, rfl, nd (wrap_succ hlt hs), trivial⟩, ⟨rfl, trivial⟩, ⟨rowsAt_set hlt rfl, trivial⟩⟩
  · exact ld (rowsAt_end (ge_map h1) hi)
def GateLedger.z : List D := [.str [], .str [], .int .i64 0, .int .i64 0]
theorem to_GateLedger (x : GateLedger) : Spec P 74 [st x.e] (st x.e) := by
  refine Spec.of_vc vcT vcM [.cell 2 148] Tryz.func74 rfl rfl rfl rfl (fun hok => ?_)
  repeat refine And.intro rfl ?_
  rfl
theorem to_GateLedgerS (xs : List GateLedger) : Spec P 37 [.d (lGateLedger xs)] (.d (lGateLedger xs)) := by
  refine Spec.of_vc vcT vcM [.tmp 2] Tryz.func37 rfl rfl rfl rfl (fun hok => ?_)
  have hs : xs.length ≤ big := by have := hok.1.1; rwa [List.length_map] at this
  repeat refine And.intro rfl ?_
  refine And.intro (Int.natCast_nonneg _) (And.intro (Int.le_refl _) (And.intro (mk_ok hs) ?_))
  refine ⟨fun k l h => ∃ i : Nat, k = xs.length - i ∧ i ≤ xs.length ∧ l = [(0, .d (lGateLedger xs)), (3, .own 0), (4, .d (.int .i64 i))] ∧ h = ⟨[(0, .row 148 GateLedger.z.length (rowsAt GateLedger.e xs GateLedger.z i))], 1, 0⟩,
    ⟨_, _, _, ⟨0, rfl, Nat.zero_le _, rfl, rfl⟩, rfl, rfl, ⟨rfl, rfl, rfl, trivial⟩, ⟨rfl, trivial⟩, ⟨rowsAt_start, trivial⟩⟩, ?_⟩
  rintro k l h1 ⟨i, rfl, hi, rfl, rfl⟩
  refine And.intro (fun h1 => ?_) (fun h1 => ?_)
  · have hlt : i < xs.length := lt_map h1
    repeat refine And.intro rfl ?_
    refine ix_at (e := GateLedger.e) (xs := xs) (hlt) rfl ?_
    repeat refine And.intro rfl ?_
    repeat refine And.intro rfl ?_
    refine Or.inl (Exists.intro _ (And.intro (to_GateLedger _) ?_))
    repeat refine And.intro rfl ?_
    refine And.intro (Int.natCast_nonneg _) (And.intro (by rw [rowsAt_len hi]; omega) ?_)
    repeat refine And.intro rfl ?_
    refine ⟨_, rowsAt_get hlt, Nat.le_refl _, ?_⟩
    exact ⟨_, _, _, ⟨i + 1, rfl, hlt, rfl, rfl⟩, by omega, rfl, rfl, ⟨rfl, rfl, nd (wrap_succ hlt hs), trivial⟩, ⟨rfl, trivial⟩, ⟨rowsAt_set hlt rfl, trivial⟩⟩
  · exact ld (rowsAt_end (ge_map h1) hi)
def GatePurse.z : List D := [.str [], .str [], .str [], .int .i64 0, .int .i64 0]
theorem to_GatePurse (x : GatePurse) : Spec P 75 [st x.e] (st x.e) := by
  refine Spec.of_vc vcT vcM [.cell 2 150] Tryz.func75 rfl rfl rfl rfl (fun hok => ?_)
  repeat refine And.intro rfl ?_
  rfl
theorem to_GatePurseS (xs : List GatePurse) : Spec P 38 [.d (lGatePurse xs)] (.d (lGatePurse xs)) := by
  refine Spec.of_vc vcT vcM [.tmp 2] Tryz.func38 rfl rfl rfl rfl (fun hok => ?_)
  have hs : xs.length ≤ big := by have := hok.1.1; rwa [List.length_map] at this
  repeat refine And.intro rfl ?_
  refine And.intro (Int.natCast_nonneg _) (And.intro (Int.le_refl _) (And.intro (mk_ok hs) ?_))
  refine ⟨fun k l h => ∃ i : Nat, k = xs.length - i ∧ i ≤ xs.length ∧ l = [(0, .d (lGatePurse xs)), (3, .own 0), (4, .d (.int .i64 i))] ∧ h = ⟨[(0, .row 150 GatePurse.z.length (rowsAt GatePurse.e xs GatePurse.z i))], 1, 0⟩,
    ⟨_, _, _, ⟨0, rfl, Nat.zero_le _, rfl, rfl⟩, rfl, rfl, ⟨rfl, rfl, rfl, trivial⟩, ⟨rfl, trivial⟩, ⟨rowsAt_start, trivial⟩⟩, ?_⟩
  rintro k l h1 ⟨i, rfl, hi, rfl, rfl⟩
  refine And.intro (fun h1 => ?_) (fun h1 => ?_)
  · have hlt : i < xs.length := lt_map h1
    repeat refine And.intro rfl ?_
    refine ix_at (e := GatePurse.e) (xs := xs) (hlt) rfl ?_
    repeat refine And.intro rfl ?_
    repeat refine And.intro rfl ?_
    refine Or.inl (Exists.intro _ (And.intro (to_GatePurse _) ?_))
    repeat refine And.intro rfl ?_
    refine And.intro (Int.natCast_nonneg _) (And.intro (by rw [rowsAt_len hi]; omega) ?_)
    repeat refine And.intro rfl ?_
    refine ⟨_, rowsAt_get hlt, Nat.le_refl _, ?_⟩
    exact ⟨_, _, _, ⟨i + 1, rfl, hlt, rfl, rfl⟩, by omega, rfl, rfl, ⟨rfl, rfl, nd (wrap_succ hlt hs), trivial⟩, ⟨rfl, trivial⟩, ⟨rowsAt_set hlt rfl, trivial⟩⟩
  · exact ld (rowsAt_end (ge_map h1) hi)
def GateBook.z : List D := [.int .i64 0, .int .i64 0, .int .i64 0, .list [], .list [], .list [], .list []]
theorem to_GateBook (x : GateBook) : Spec P 11 [st x.e] (st x.e) := by
  refine Spec.of_vc vcT vcM [.cell 2 50] Tryz.func11 rfl rfl rfl rfl (fun hok => ?_)
  repeat refine And.intro rfl ?_
  refine Or.inl (Exists.intro _ (And.intro (to_GateObjectS _) ?_))
  repeat refine And.intro rfl ?_
  refine Or.inl (Exists.intro _ (And.intro (to_GateGrantS _) ?_))
  repeat refine And.intro rfl ?_
  refine Or.inl (Exists.intro _ (And.intro (to_GateLedgerS _) ?_))
  repeat refine And.intro rfl ?_
  refine Or.inl (Exists.intro _ (And.intro (to_GatePurseS _) ?_))
  repeat refine And.intro rfl ?_
  rfl
def GateAsk.z : List D := [.str [], .int .i64 0, .str [], .str [], .str [], .list [], .list [], .int .i64 0, .str [], .str [], .list [], .str [], .str [], .str [], .int .i64 0]
theorem to_GateAsk (x : GateAsk) : Spec P 209 [st x.e] (st x.e) := by
  refine Spec.of_vc vcT vcM [.cell 2 168] Tryz.func209 rfl rfl rfl rfl (fun hok => ?_)
  repeat refine And.intro rfl ?_
  refine Or.inl (Exists.intro _ (And.intro (to_StringS _) ?_))
  repeat refine And.intro rfl ?_
  refine Or.inl (Exists.intro _ (And.intro (to_StringS _) ?_))
  repeat refine And.intro rfl ?_
  refine Or.inl (Exists.intro _ (And.intro (to_GateRule _) ?_))
  repeat refine And.intro rfl ?_
  rfl
def GateWant.z : List D := [.str [], .str [], .int .i64 0]
theorem to_GateWant (x : GateWant) : Spec P 221 [st x.e] (st x.e) := by
  refine Spec.of_vc vcT vcM [.cell 2 214] Tryz.func221 rfl rfl rfl rfl (fun hok => ?_)
  repeat refine And.intro rfl ?_
  rfl
theorem to_GateWantS (xs : List GateWant) : Spec P 210 [.d (lGateWant xs)] (.d (lGateWant xs)) := by
  refine Spec.of_vc vcT vcM [.tmp 2] Tryz.func210 rfl rfl rfl rfl (fun hok => ?_)
  have hs : xs.length ≤ big := by have := hok.1.1; rwa [List.length_map] at this
  repeat refine And.intro rfl ?_
  refine And.intro (Int.natCast_nonneg _) (And.intro (Int.le_refl _) (And.intro (mk_ok hs) ?_))
  refine ⟨fun k l h => ∃ i : Nat, k = xs.length - i ∧ i ≤ xs.length ∧ l = [(0, .d (lGateWant xs)), (3, .own 0), (4, .d (.int .i64 i))] ∧ h = ⟨[(0, .row 214 GateWant.z.length (rowsAt GateWant.e xs GateWant.z i))], 1, 0⟩,
    ⟨_, _, _, ⟨0, rfl, Nat.zero_le _, rfl, rfl⟩, rfl, rfl, ⟨rfl, rfl, rfl, trivial⟩, ⟨rfl, trivial⟩, ⟨rowsAt_start, trivial⟩⟩, ?_⟩
  rintro k l h1 ⟨i, rfl, hi, rfl, rfl⟩
  refine And.intro (fun h1 => ?_) (fun h1 => ?_)
  · have hlt : i < xs.length := lt_map h1
    repeat refine And.intro rfl ?_
    refine ix_at (e := GateWant.e) (xs := xs) (hlt) rfl ?_
    repeat refine And.intro rfl ?_
    repeat refine And.intro rfl ?_
    refine Or.inl (Exists.intro _ (And.intro (to_GateWant _) ?_))
    repeat refine And.intro rfl ?_
    refine And.intro (Int.natCast_nonneg _) (And.intro (by rw [rowsAt_len hi]; omega) ?_)
    repeat refine And.intro rfl ?_
    refine ⟨_, rowsAt_get hlt, Nat.le_refl _, ?_⟩
    exact ⟨_, _, _, ⟨i + 1, rfl, hlt, rfl, rfl⟩, by omega, rfl, rfl, ⟨rfl, rfl, nd (wrap_succ hlt hs), trivial⟩, ⟨rfl, trivial⟩, ⟨rowsAt_set hlt rfl, trivial⟩⟩
  · exact ld (rowsAt_end (ge_map h1) hi)
def GateSlip.z : List D := [.str [], .str [], .int .i64 0, .str [], .str [], .str [], .list [], .list [], .int .i64 0, .str [], .str [], .list [], .str [], .str [], .str [], .int .i64 0, .int .i64 0, .list []]
theorem to_GateSlip (x : GateSlip) : Spec P 182 [st x.e] (st x.e) := by
  refine Spec.of_vc vcT vcM [.cell 2 171] Tryz.func182 rfl rfl rfl rfl (fun hok => ?_)
  repeat refine And.intro rfl ?_
  refine Or.inl (Exists.intro _ (And.intro (to_GateAsk _) ?_))
  repeat refine And.intro rfl ?_
  refine Or.inl (Exists.intro _ (And.intro (to_GateWantS _) ?_))
  repeat refine And.intro rfl ?_
  rfl
theorem to_GateSlipS (xs : List GateSlip) : Spec P 140 [.d (lGateSlip xs)] (.d (lGateSlip xs)) := by
  refine Spec.of_vc vcT vcM [.tmp 2] Tryz.func140 rfl rfl rfl rfl (fun hok => ?_)
  have hs : xs.length ≤ big := by have := hok.1.1; rwa [List.length_map] at this
  repeat refine And.intro rfl ?_
  refine And.intro (Int.natCast_nonneg _) (And.intro (Int.le_refl _) (And.intro (mk_ok hs) ?_))
  refine ⟨fun k l h => ∃ i : Nat, k = xs.length - i ∧ i ≤ xs.length ∧ l = [(0, .d (lGateSlip xs)), (3, .own 0), (4, .d (.int .i64 i))] ∧ h = ⟨[(0, .row 171 GateSlip.z.length (rowsAt GateSlip.e xs GateSlip.z i))], 1, 0⟩,
    ⟨_, _, _, ⟨0, rfl, Nat.zero_le _, rfl, rfl⟩, rfl, rfl, ⟨rfl, rfl, rfl, trivial⟩, ⟨rfl, trivial⟩, ⟨rowsAt_start, trivial⟩⟩, ?_⟩
  rintro k l h1 ⟨i, rfl, hi, rfl, rfl⟩
  refine And.intro (fun h1 => ?_) (fun h1 => ?_)
  · have hlt : i < xs.length := lt_map h1
    repeat refine And.intro rfl ?_
    refine ix_at (e := GateSlip.e) (xs := xs) (hlt) rfl ?_
    repeat refine And.intro rfl ?_
    repeat refine And.intro rfl ?_
    refine Or.inl (Exists.intro _ (And.intro (to_GateSlip _) ?_))
    repeat refine And.intro rfl ?_
    refine And.intro (Int.natCast_nonneg _) (And.intro (by rw [rowsAt_len hi]; omega) ?_)
    repeat refine And.intro rfl ?_
    refine ⟨_, rowsAt_get hlt, Nat.le_refl _, ?_⟩
    exact ⟨_, _, _, ⟨i + 1, rfl, hlt, rfl, rfl⟩, by omega, rfl, rfl, ⟨rfl, rfl, nd (wrap_succ hlt hs), trivial⟩, ⟨rfl, trivial⟩, ⟨rowsAt_set hlt rfl, trivial⟩⟩
  · exact ld (rowsAt_end (ge_map h1) hi)
def GateDoor.z : List D := [.str [], .bool false, .int .i64 0, .int .i64 0, .int .i64 0, .list [], .list [], .list [], .list [], .list []]
theorem to_GateDoor (x : GateDoor) : Spec P 92 [st x.e] (st x.e) := by
  refine Spec.of_vc vcT vcM [.cell 2 96] Tryz.func92 rfl rfl rfl rfl (fun hok => ?_)
  repeat refine And.intro rfl ?_
  refine Or.inl (Exists.intro _ (And.intro (to_GateBook _) ?_))
  repeat refine And.intro rfl ?_
  refine Or.inl (Exists.intro _ (And.intro (to_GateSlipS _) ?_))
  repeat refine And.intro rfl ?_
  rfl
theorem to_GateDoorS (xs : List GateDoor) : Spec P 50 [.d (lGateDoor xs)] (.d (lGateDoor xs)) := by
  refine Spec.of_vc vcT vcM [.tmp 2] Tryz.func50 rfl rfl rfl rfl (fun hok => ?_)
  have hs : xs.length ≤ big := by have := hok.1.1; rwa [List.length_map] at this
  repeat refine And.intro rfl ?_
  refine And.intro (Int.natCast_nonneg _) (And.intro (Int.le_refl _) (And.intro (mk_ok hs) ?_))
  refine ⟨fun k l h => ∃ i : Nat, k = xs.length - i ∧ i ≤ xs.length ∧ l = [(0, .d (lGateDoor xs)), (3, .own 0), (4, .d (.int .i64 i))] ∧ h = ⟨[(0, .row 96 GateDoor.z.length (rowsAt GateDoor.e xs GateDoor.z i))], 1, 0⟩,
    ⟨_, _, _, ⟨0, rfl, Nat.zero_le _, rfl, rfl⟩, rfl, rfl, ⟨rfl, rfl, rfl, trivial⟩, ⟨rfl, trivial⟩, ⟨rowsAt_start, trivial⟩⟩, ?_⟩
  rintro k l h1 ⟨i, rfl, hi, rfl, rfl⟩
  refine And.intro (fun h1 => ?_) (fun h1 => ?_)
  · have hlt : i < xs.length := lt_map h1
    repeat refine And.intro rfl ?_
    refine ix_at (e := GateDoor.e) (xs := xs) (hlt) rfl ?_
    repeat refine And.intro rfl ?_
    repeat refine And.intro rfl ?_
    refine Or.inl (Exists.intro _ (And.intro (to_GateDoor _) ?_))
    repeat refine And.intro rfl ?_
    refine And.intro (Int.natCast_nonneg _) (And.intro (by rw [rowsAt_len hi]; omega) ?_)
    repeat refine And.intro rfl ?_
    refine ⟨_, rowsAt_get hlt, Nat.le_refl _, ?_⟩
    exact ⟨_, _, _, ⟨i + 1, rfl, hlt, rfl, rfl⟩, by omega, rfl, rfl, ⟨rfl, rfl, nd (wrap_succ hlt hs), trivial⟩, ⟨rfl, trivial⟩, ⟨rowsAt_set hlt rfl, trivial⟩⟩
  · exact ld (rowsAt_end (ge_map h1) hi)
def GateWorld.z : List D := [.int .i64 0, .int .i64 0, .int .i64 0, .list [], .list [], .list [], .list [], .list []]
theorem to_GateWorld (x : GateWorld) : Spec P 18 [st x.e] (st x.e) := by
  refine Spec.of_vc vcT vcM [.cell 2 64] Tryz.func18 rfl rfl rfl rfl (fun hok => ?_)
  repeat refine And.intro rfl ?_
  refine Or.inl (Exists.intro _ (And.intro (to_GateBook _) ?_))
  repeat refine And.intro rfl ?_
  refine Or.inl (Exists.intro _ (And.intro (to_GateDoorS _) ?_))
  repeat refine And.intro rfl ?_
  rfl
def GateAct.z : List D := [.int .i64 0, .str [], .str [], .str []]
theorem to_GateAct (x : GateAct) : Spec P 12 [st x.e] (st x.e) := by
  refine Spec.of_vc vcT vcM [.cell 2 52] Tryz.func12 rfl rfl rfl rfl (fun hok => ?_)
  repeat refine And.intro rfl ?_
  rfl
theorem eq_StringS (xs : List Bs) : Spec P 135 [.d (lS xs), .d (lS xs)] (.d (.bool true)) := by
  refine Spec.of_vc vcT vcM [.tmp 4] Tryz.func135 rfl rfl rfl rfl (fun hok => ?_)
  have hs : xs.length ≤ big := by have := hok.1.1; rwa [List.length_map] at this
  repeat refine And.intro rfl ?_
  refine And.intro (fun h => absurd h (by simp)) (fun _ => ?_)
  refine ⟨fun k l h => ∃ i : Nat, k = xs.length - i ∧ i ≤ xs.length ∧ l = [(0, .d (lS xs)), (1, .d (lS xs)), (5, .d (.int .i64 i))] ∧ h = hp0,
    ⟨_, _, _, ⟨0, rfl, Nat.zero_le _, rfl, rfl⟩, rfl, rfl, ⟨rfl, rfl, rfl, trivial⟩, trivial, trivial⟩, ?_⟩
  rintro k l h1 ⟨i, rfl, hi, rfl, rfl⟩
  refine And.intro (fun h1 => ?_) (fun h1 => ?_)
  · have hlt : i < xs.length := lt_map h1
    repeat refine And.intro rfl ?_
    refine And.intro (by kernel_rfl) ?_
    repeat refine And.intro rfl ?_
    repeat refine And.intro rfl ?_
    refine ix_at (e := eB) (xs := xs) (hlt) rfl ?_
    repeat refine And.intro rfl ?_
    repeat refine And.intro rfl ?_
    refine ix_at (e := eB) (xs := xs) (hlt) rfl ?_
    repeat refine And.intro rfl ?_
    repeat refine And.intro rfl ?_
    refine And.intro (fun h => absurd h (by simp)) (fun _ => ?_)
    exact ⟨_, _, _, ⟨i + 1, rfl, hlt, rfl, rfl⟩, by omega, rfl, rfl, ⟨rfl, rfl, nd (wrap_succ hlt hs), trivial⟩, trivial, trivial⟩
  · rfl
theorem eq_IntS (xs : List Int) : Spec P 178 [.d (lI xs), .d (lI xs)] (.d (.bool true)) := by
  refine Spec.of_vc vcT vcM [.tmp 4] Tryz.func178 rfl rfl rfl rfl (fun hok => ?_)
  have hs : xs.length ≤ big := by have := hok.1.1; rwa [List.length_map] at this
  repeat refine And.intro rfl ?_
  refine And.intro (fun h => absurd h (by simp)) (fun _ => ?_)
  refine ⟨fun k l h => ∃ i : Nat, k = xs.length - i ∧ i ≤ xs.length ∧ l = [(0, .d (lI xs)), (1, .d (lI xs)), (5, .d (.int .i64 i))] ∧ h = hp0,
    ⟨_, _, _, ⟨0, rfl, Nat.zero_le _, rfl, rfl⟩, rfl, rfl, ⟨rfl, rfl, rfl, trivial⟩, trivial, trivial⟩, ?_⟩
  rintro k l h1 ⟨i, rfl, hi, rfl, rfl⟩
  refine And.intro (fun h1 => ?_) (fun h1 => ?_)
  · have hlt : i < xs.length := lt_map h1
    repeat refine And.intro rfl ?_
    refine And.intro (by kernel_rfl) ?_
    repeat refine And.intro rfl ?_
    repeat refine And.intro rfl ?_
    refine ix_at (e := eN) (xs := xs) (hlt) rfl ?_
    repeat refine And.intro rfl ?_
    repeat refine And.intro rfl ?_
    refine ix_at (e := eN) (xs := xs) (hlt) rfl ?_
    repeat refine And.intro rfl ?_
    repeat refine And.intro rfl ?_
    refine And.intro (fun h => absurd h (by simp)) (fun _ => ?_)
    exact ⟨_, _, _, ⟨i + 1, rfl, hlt, rfl, rfl⟩, by omega, rfl, rfl, ⟨rfl, rfl, nd (wrap_succ hlt hs), trivial⟩, trivial, trivial⟩
  · rfl
theorem eq_GateField (x : GateField) : Spec P 177 [st x.e, st x.e] (.d (.bool true)) := by
  refine Spec.of_vc vcT vcM [.tmp 4] Tryz.func177 rfl rfl rfl rfl (fun hok => ?_)
  repeat refine And.intro rfl ?_
  refine And.intro (fun h => absurd h (by simp)) (fun _ => ?_)
  repeat refine And.intro rfl ?_
  refine And.intro (fun h => absurd h (by simp)) (fun _ => ?_)
  repeat refine And.intro rfl ?_
  refine And.intro (fun h => absurd h (by simp)) (fun _ => ?_)
  repeat refine And.intro rfl ?_
  refine And.intro (fun h => absurd h (by simp)) (fun _ => ?_)
  repeat refine And.intro rfl ?_
  refine Or.inl (Exists.intro _ (And.intro (eq_StringS _) ?_))
  repeat refine And.intro rfl ?_
  refine And.intro (fun h => absurd h (by simp)) (fun _ => ?_)
  repeat refine And.intro rfl ?_
  refine And.intro (fun h => absurd h (by simp)) (fun _ => ?_)
  repeat refine And.intro rfl ?_
  refine And.intro (fun h => absurd h (by simp)) (fun _ => ?_)
  repeat refine And.intro rfl ?_
  refine And.intro (fun h => absurd h (by simp)) (fun _ => ?_)
  repeat refine And.intro rfl ?_
  refine And.intro (fun h => absurd h (by simp)) (fun _ => ?_)
  repeat refine And.intro rfl ?_
  refine And.intro (fun h => absurd h (by simp)) (fun _ => ?_)
  repeat refine And.intro rfl ?_
  refine And.intro (fun h => absurd h (by simp)) (fun _ => ?_)
  repeat refine And.intro rfl ?_
  rfl
theorem eq_GateFieldS (xs : List GateField) : Spec P 134 [.d (lGateField xs), .d (lGateField xs)] (.d (.bool true)) := by
  refine Spec.of_vc vcT vcM [.tmp 4] Tryz.func134 rfl rfl rfl rfl (fun hok => ?_)
  have hs : xs.length ≤ big := by have := hok.1.1; rwa [List.length_map] at this
  repeat refine And.intro rfl ?_
  refine And.intro (fun h => absurd h (by simp)) (fun _ => ?_)
  refine ⟨fun k l h => ∃ i : Nat, k = xs.length - i ∧ i ≤ xs.length ∧ l = [(0, .d (lGateField xs)), (1, .d (lGateField xs)), (5, .d (.int .i64 i))] ∧ h = hp0,
    ⟨_, _, _, ⟨0, rfl, Nat.zero_le _, rfl, rfl⟩, rfl, rfl, ⟨rfl, rfl, rfl, trivial⟩, trivial, trivial⟩, ?_⟩
  rintro k l h1 ⟨i, rfl, hi, rfl, rfl⟩
  refine And.intro (fun h1 => ?_) (fun h1 => ?_)
  · have hlt : i < xs.length := lt_map h1
    repeat refine And.intro rfl ?_
    refine And.intro (by kernel_rfl) ?_
    repeat refine And.intro rfl ?_
    repeat refine And.intro rfl ?_
    refine ix_at (e := GateField.e) (xs := xs) (hlt) rfl ?_
    repeat refine And.intro rfl ?_
    repeat refine And.intro rfl ?_
    refine ix_at (e := GateField.e) (xs := xs) (hlt) rfl ?_
    repeat refine And.intro rfl ?_
    repeat refine And.intro rfl ?_
    refine Or.inl (Exists.intro _ (And.intro (eq_GateField _) ?_))
    repeat refine And.intro rfl ?_
    refine And.intro (fun h => absurd h (by simp)) (fun _ => ?_)
    exact ⟨_, _, _, ⟨i + 1, rfl, hlt, rfl, rfl⟩, by omega, rfl, rfl, ⟨rfl, rfl, nd (wrap_succ hlt hs), trivial⟩, trivial, trivial⟩
  · rfl
theorem eq_GateShape (x : GateShape) : Spec P 82 [st x.e, st x.e] (.d (.bool true)) := by
  refine Spec.of_vc vcT vcM [.tmp 4] Tryz.func82 rfl rfl rfl rfl (fun hok => ?_)
  repeat refine And.intro rfl ?_
  refine And.intro (fun h => absurd h (by simp)) (fun _ => ?_)
  repeat refine And.intro rfl ?_
  refine Or.inl (Exists.intro _ (And.intro (eq_GateFieldS _) ?_))
  repeat refine And.intro rfl ?_
  refine And.intro (fun h => absurd h (by simp)) (fun _ => ?_)
  repeat refine And.intro rfl ?_
  rfl
theorem eq_GateShapeS (xs : List GateShape) : Spec P 41 [.d (lGateShape xs), .d (lGateShape xs)] (.d (.bool true)) := by
  refine Spec.of_vc vcT vcM [.tmp 4] Tryz.func41 rfl rfl rfl rfl (fun hok => ?_)
  have hs : xs.length ≤ big := by have := hok.1.1; rwa [List.length_map] at this
  repeat refine And.intro rfl ?_
  refine And.intro (fun h => absurd h (by simp)) (fun _ => ?_)
  refine ⟨fun k l h => ∃ i : Nat, k = xs.length - i ∧ i ≤ xs.length ∧ l = [(0, .d (lGateShape xs)), (1, .d (lGateShape xs)), (5, .d (.int .i64 i))] ∧ h = hp0,
    ⟨_, _, _, ⟨0, rfl, Nat.zero_le _, rfl, rfl⟩, rfl, rfl, ⟨rfl, rfl, rfl, trivial⟩, trivial, trivial⟩, ?_⟩
  rintro k l h1 ⟨i, rfl, hi, rfl, rfl⟩
  refine And.intro (fun h1 => ?_) (fun h1 => ?_)
  · have hlt : i < xs.length := lt_map h1
    repeat refine And.intro rfl ?_
    refine And.intro (by kernel_rfl) ?_
    repeat refine And.intro rfl ?_
    repeat refine And.intro rfl ?_
    refine ix_at (e := GateShape.e) (xs := xs) (hlt) rfl ?_
    repeat refine And.intro rfl ?_
    repeat refine And.intro rfl ?_
    refine ix_at (e := GateShape.e) (xs := xs) (hlt) rfl ?_
    repeat refine And.intro rfl ?_
    repeat refine And.intro rfl ?_
    refine Or.inl (Exists.intro _ (And.intro (eq_GateShape _) ?_))
    repeat refine And.intro rfl ?_
    refine And.intro (fun h => absurd h (by simp)) (fun _ => ?_)
    exact ⟨_, _, _, ⟨i + 1, rfl, hlt, rfl, rfl⟩, by omega, rfl, rfl, ⟨rfl, rfl, nd (wrap_succ hlt hs), trivial⟩, trivial, trivial⟩
  · rfl
theorem eq_GateMend (x : GateMend) : Spec P 83 [st x.e, st x.e] (.d (.bool true)) := by
  refine Spec.of_vc vcT vcM [.tmp 4] Tryz.func83 rfl rfl rfl rfl (fun hok => ?_)
  repeat refine And.intro rfl ?_
  refine And.intro (fun h => absurd h (by simp)) (fun _ => ?_)
  repeat refine And.intro rfl ?_
  refine And.intro (fun h => absurd h (by simp)) (fun _ => ?_)
  repeat refine And.intro rfl ?_
  refine And.intro (fun h => absurd h (by simp)) (fun _ => ?_)
  repeat refine And.intro rfl ?_
  refine And.intro (fun h => absurd h (by simp)) (fun _ => ?_)
  repeat refine And.intro rfl ?_
  refine And.intro (fun h => absurd h (by simp)) (fun _ => ?_)
  repeat refine And.intro rfl ?_
  refine And.intro (fun h => absurd h (by simp)) (fun _ => ?_)
  repeat refine And.intro rfl ?_
  rfl
theorem eq_GateMendS (xs : List GateMend) : Spec P 42 [.d (lGateMend xs), .d (lGateMend xs)] (.d (.bool true)) := by
  refine Spec.of_vc vcT vcM [.tmp 4] Tryz.func42 rfl rfl rfl rfl (fun hok => ?_)
  have hs : xs.length ≤ big := by have := hok.1.1; rwa [List.length_map] at this
  repeat refine And.intro rfl ?_
  refine And.intro (fun h => absurd h (by simp)) (fun _ => ?_)
  refine ⟨fun k l h => ∃ i : Nat, k = xs.length - i ∧ i ≤ xs.length ∧ l = [(0, .d (lGateMend xs)), (1, .d (lGateMend xs)), (5, .d (.int .i64 i))] ∧ h = hp0,
    ⟨_, _, _, ⟨0, rfl, Nat.zero_le _, rfl, rfl⟩, rfl, rfl, ⟨rfl, rfl, rfl, trivial⟩, trivial, trivial⟩, ?_⟩
  rintro k l h1 ⟨i, rfl, hi, rfl, rfl⟩
  refine And.intro (fun h1 => ?_) (fun h1 => ?_)
  · have hlt : i < xs.length := lt_map h1
    repeat refine And.intro rfl ?_
    refine And.intro (by kernel_rfl) ?_
    repeat refine And.intro rfl ?_
    repeat refine And.intro rfl ?_
    refine ix_at (e := GateMend.e) (xs := xs) (hlt) rfl ?_
    repeat refine And.intro rfl ?_
    repeat refine And.intro rfl ?_
    refine ix_at (e := GateMend.e) (xs := xs) (hlt) rfl ?_
    repeat refine And.intro rfl ?_
    repeat refine And.intro rfl ?_
    refine Or.inl (Exists.intro _ (And.intro (eq_GateMend _) ?_))
    repeat refine And.intro rfl ?_
    refine And.intro (fun h => absurd h (by simp)) (fun _ => ?_)
    exact ⟨_, _, _, ⟨i + 1, rfl, hlt, rfl, rfl⟩, by omega, rfl, rfl, ⟨rfl, rfl, nd (wrap_succ hlt hs), trivial⟩, trivial, trivial⟩
  · rfl
theorem eq_GateTeam (x : GateTeam) : Spec P 84 [st x.e, st x.e] (.d (.bool true)) := by
  refine Spec.of_vc vcT vcM [.tmp 4] Tryz.func84 rfl rfl rfl rfl (fun hok => ?_)
  repeat refine And.intro rfl ?_
  refine And.intro (fun h => absurd h (by simp)) (fun _ => ?_)
  repeat refine And.intro rfl ?_
  refine And.intro (fun h => absurd h (by simp)) (fun _ => ?_)
  repeat refine And.intro rfl ?_
  rfl
theorem eq_GateTeamS (xs : List GateTeam) : Spec P 43 [.d (lGateTeam xs), .d (lGateTeam xs)] (.d (.bool true)) := by
  refine Spec.of_vc vcT vcM [.tmp 4] Tryz.func43 rfl rfl rfl rfl (fun hok => ?_)
  have hs : xs.length ≤ big := by have := hok.1.1; rwa [List.length_map] at this
  repeat refine And.intro rfl ?_
  refine And.intro (fun h => absurd h (by simp)) (fun _ => ?_)
  refine ⟨fun k l h => ∃ i : Nat, k = xs.length - i ∧ i ≤ xs.length ∧ l = [(0, .d (lGateTeam xs)), (1, .d (lGateTeam xs)), (5, .d (.int .i64 i))] ∧ h = hp0,
    ⟨_, _, _, ⟨0, rfl, Nat.zero_le _, rfl, rfl⟩, rfl, rfl, ⟨rfl, rfl, rfl, trivial⟩, trivial, trivial⟩, ?_⟩
  rintro k l h1 ⟨i, rfl, hi, rfl, rfl⟩
  refine And.intro (fun h1 => ?_) (fun h1 => ?_)
  · have hlt : i < xs.length := lt_map h1
    repeat refine And.intro rfl ?_
    refine And.intro (by kernel_rfl) ?_
    repeat refine And.intro rfl ?_
    repeat refine And.intro rfl ?_
    refine ix_at (e := GateTeam.e) (xs := xs) (hlt) rfl ?_
    repeat refine And.intro rfl ?_
    repeat refine And.intro rfl ?_
    refine ix_at (e := GateTeam.e) (xs := xs) (hlt) rfl ?_
    repeat refine And.intro rfl ?_
    repeat refine And.intro rfl ?_
    refine Or.inl (Exists.intro _ (And.intro (eq_GateTeam _) ?_))
    repeat refine And.intro rfl ?_
    refine And.intro (fun h => absurd h (by simp)) (fun _ => ?_)
    exact ⟨_, _, _, ⟨i + 1, rfl, hlt, rfl, rfl⟩, by omega, rfl, rfl, ⟨rfl, rfl, nd (wrap_succ hlt hs), trivial⟩, trivial, trivial⟩
  · rfl
theorem eq_GateLaw (x : GateLaw) : Spec P 14 [st x.e, st x.e] (.d (.bool true)) := by
  refine Spec.of_vc vcT vcM [.tmp 4] Tryz.func14 rfl rfl rfl rfl (fun hok => ?_)
  repeat refine And.intro rfl ?_
  refine Or.inl (Exists.intro _ (And.intro (eq_GateShapeS _) ?_))
  repeat refine And.intro rfl ?_
  refine And.intro (fun h => absurd h (by simp)) (fun _ => ?_)
  repeat refine And.intro rfl ?_
  refine Or.inl (Exists.intro _ (And.intro (eq_GateMendS _) ?_))
  repeat refine And.intro rfl ?_
  refine And.intro (fun h => absurd h (by simp)) (fun _ => ?_)
  repeat refine And.intro rfl ?_
  refine Or.inl (Exists.intro _ (And.intro (eq_GateTeamS _) ?_))
  repeat refine And.intro rfl ?_
  refine And.intro (fun h => absurd h (by simp)) (fun _ => ?_)
  repeat refine And.intro rfl ?_
  rfl
theorem eq_GateObject (x : GateObject) : Spec P 85 [st x.e, st x.e] (.d (.bool true)) := by
  refine Spec.of_vc vcT vcM [.tmp 4] Tryz.func85 rfl rfl rfl rfl (fun hok => ?_)
  repeat refine And.intro rfl ?_
  refine And.intro (fun h => absurd h (by simp)) (fun _ => ?_)
  repeat refine And.intro rfl ?_
  refine And.intro (fun h => absurd h (by simp)) (fun _ => ?_)
  repeat refine And.intro rfl ?_
  refine And.intro (fun h => absurd h (by simp)) (fun _ => ?_)
  repeat refine And.intro rfl ?_
  refine Or.inl (Exists.intro _ (And.intro (eq_StringS _) ?_))
  repeat refine And.intro rfl ?_
  refine And.intro (fun h => absurd h (by simp)) (fun _ => ?_)
  repeat refine And.intro rfl ?_
  refine And.intro (fun h => absurd h (by simp)) (fun _ => ?_)
  repeat refine And.intro rfl ?_
  refine Or.inl (Exists.intro _ (And.intro (eq_StringS _) ?_))
  repeat refine And.intro rfl ?_
  refine And.intro (fun h => absurd h (by simp)) (fun _ => ?_)
  repeat refine And.intro rfl ?_
  refine And.intro (fun h => absurd h (by simp)) (fun _ => ?_)
  repeat refine And.intro rfl ?_
  rfl
theorem eq_GateObjectS (xs : List GateObject) : Spec P 44 [.d (lGateObject xs), .d (lGateObject xs)] (.d (.bool true)) := by
  refine Spec.of_vc vcT vcM [.tmp 4] Tryz.func44 rfl rfl rfl rfl (fun hok => ?_)
  have hs : xs.length ≤ big := by have := hok.1.1; rwa [List.length_map] at this
  repeat refine And.intro rfl ?_
  refine And.intro (fun h => absurd h (by simp)) (fun _ => ?_)
  refine ⟨fun k l h => ∃ i : Nat, k = xs.length - i ∧ i ≤ xs.length ∧ l = [(0, .d (lGateObject xs)), (1, .d (lGateObject xs)), (5, .d (.int .i64 i))] ∧ h = hp0,
    ⟨_, _, _, ⟨0, rfl, Nat.zero_le _, rfl, rfl⟩, rfl, rfl, ⟨rfl, rfl, rfl, trivial⟩, trivial, trivial⟩, ?_⟩
  rintro k l h1 ⟨i, rfl, hi, rfl, rfl⟩
  refine And.intro (fun h1 => ?_) (fun h1 => ?_)
  · have hlt : i < xs.length := lt_map h1
    repeat refine And.intro rfl ?_
    refine And.intro (by kernel_rfl) ?_
    repeat refine And.intro rfl ?_
    repeat refine And.intro rfl ?_
    refine ix_at (e := GateObject.e) (xs := xs) (hlt) rfl ?_
    repeat refine And.intro rfl ?_
    repeat refine And.intro rfl ?_
    refine ix_at (e := GateObject.e) (xs := xs) (hlt) rfl ?_
    repeat refine And.intro rfl ?_
    repeat refine And.intro rfl ?_
    refine Or.inl (Exists.intro _ (And.intro (eq_GateObject _) ?_))
    repeat refine And.intro rfl ?_
    refine And.intro (fun h => absurd h (by simp)) (fun _ => ?_)
    exact ⟨_, _, _, ⟨i + 1, rfl, hlt, rfl, rfl⟩, by omega, rfl, rfl, ⟨rfl, rfl, nd (wrap_succ hlt hs), trivial⟩, trivial, trivial⟩
  · rfl
theorem eq_GateRule (x : GateRule) : Spec P 136 [st x.e, st x.e] (.d (.bool true)) := by
  refine Spec.of_vc vcT vcM [.tmp 4] Tryz.func136 rfl rfl rfl rfl (fun hok => ?_)
  repeat refine And.intro rfl ?_
  refine Or.inl (Exists.intro _ (And.intro (eq_IntS _) ?_))
  repeat refine And.intro rfl ?_
  refine And.intro (fun h => absurd h (by simp)) (fun _ => ?_)
  repeat refine And.intro rfl ?_
  refine And.intro (fun h => absurd h (by simp)) (fun _ => ?_)
  repeat refine And.intro rfl ?_
  refine And.intro (fun h => absurd h (by simp)) (fun _ => ?_)
  repeat refine And.intro rfl ?_
  refine And.intro (fun h => absurd h (by simp)) (fun _ => ?_)
  repeat refine And.intro rfl ?_
  rfl
theorem eq_GateGrant (x : GateGrant) : Spec P 86 [st x.e, st x.e] (.d (.bool true)) := by
  refine Spec.of_vc vcT vcM [.tmp 4] Tryz.func86 rfl rfl rfl rfl (fun hok => ?_)
  repeat refine And.intro rfl ?_
  refine And.intro (fun h => absurd h (by simp)) (fun _ => ?_)
  repeat refine And.intro rfl ?_
  refine And.intro (fun h => absurd h (by simp)) (fun _ => ?_)
  repeat refine And.intro rfl ?_
  refine And.intro (fun h => absurd h (by simp)) (fun _ => ?_)
  repeat refine And.intro rfl ?_
  refine Or.inl (Exists.intro _ (And.intro (eq_GateRule _) ?_))
  repeat refine And.intro rfl ?_
  refine And.intro (fun h => absurd h (by simp)) (fun _ => ?_)
  repeat refine And.intro rfl ?_
  rfl
theorem eq_GateGrantS (xs : List GateGrant) : Spec P 45 [.d (lGateGrant xs), .d (lGateGrant xs)] (.d (.bool true)) := by
  refine Spec.of_vc vcT vcM [.tmp 4] Tryz.func45 rfl rfl rfl rfl (fun hok => ?_)
  have hs : xs.length ≤ big := by have := hok.1.1; rwa [List.length_map] at this
  repeat refine And.intro rfl ?_
  refine And.intro (fun h => absurd h (by simp)) (fun _ => ?_)
  refine ⟨fun k l h => ∃ i : Nat, k = xs.length - i ∧ i ≤ xs.length ∧ l = [(0, .d (lGateGrant xs)), (1, .d (lGateGrant xs)), (5, .d (.int .i64 i))] ∧ h = hp0,
    ⟨_, _, _, ⟨0, rfl, Nat.zero_le _, rfl, rfl⟩, rfl, rfl, ⟨rfl, rfl, rfl, trivial⟩, trivial, trivial⟩, ?_⟩
  rintro k l h1 ⟨i, rfl, hi, rfl, rfl⟩
  refine And.intro (fun h1 => ?_) (fun h1 => ?_)
  · have hlt : i < xs.length := lt_map h1
    repeat refine And.intro rfl ?_
    refine And.intro (by kernel_rfl) ?_
    repeat refine And.intro rfl ?_
    repeat refine And.intro rfl ?_
    refine ix_at (e := GateGrant.e) (xs := xs) (hlt) rfl ?_
    repeat refine And.intro rfl ?_
    repeat refine And.intro rfl ?_
    refine ix_at (e := GateGrant.e) (xs := xs) (hlt) rfl ?_
    repeat refine And.intro rfl ?_
    repeat refine And.intro rfl ?_
    refine Or.inl (Exists.intro _ (And.intro (eq_GateGrant _) ?_))
    repeat refine And.intro rfl ?_
    refine And.intro (fun h => absurd h (by simp)) (fun _ => ?_)
    exact ⟨_, _, _, ⟨i + 1, rfl, hlt, rfl, rfl⟩, by omega, rfl, rfl, ⟨rfl, rfl, nd (wrap_succ hlt hs), trivial⟩, trivial, trivial⟩
  · rfl
theorem eq_GateLedger (x : GateLedger) : Spec P 87 [st x.e, st x.e] (.d (.bool true)) := by
  refine Spec.of_vc vcT vcM [.tmp 4] Tryz.func87 rfl rfl rfl rfl (fun hok => ?_)
  repeat refine And.intro rfl ?_
  refine And.intro (fun h => absurd h (by simp)) (fun _ => ?_)
  repeat refine And.intro rfl ?_
  refine And.intro (fun h => absurd h (by simp)) (fun _ => ?_)
  repeat refine And.intro rfl ?_
  refine And.intro (fun h => absurd h (by simp)) (fun _ => ?_)
  repeat refine And.intro rfl ?_
  refine And.intro (fun h => absurd h (by simp)) (fun _ => ?_)
  repeat refine And.intro rfl ?_
  rfl
theorem eq_GateLedgerS (xs : List GateLedger) : Spec P 46 [.d (lGateLedger xs), .d (lGateLedger xs)] (.d (.bool true)) := by
  refine Spec.of_vc vcT vcM [.tmp 4] Tryz.func46 rfl rfl rfl rfl (fun hok => ?_)
  have hs : xs.length ≤ big := by have := hok.1.1; rwa [List.length_map] at this
  repeat refine And.intro rfl ?_
  refine And.intro (fun h => absurd h (by simp)) (fun _ => ?_)
  refine ⟨fun k l h => ∃ i : Nat, k = xs.length - i ∧ i ≤ xs.length ∧ l = [(0, .d (lGateLedger xs)), (1, .d (lGateLedger xs)), (5, .d (.int .i64 i))] ∧ h = hp0,
    ⟨_, _, _, ⟨0, rfl, Nat.zero_le _, rfl, rfl⟩, rfl, rfl, ⟨rfl, rfl, rfl, trivial⟩, trivial, trivial⟩, ?_⟩
  rintro k l h1 ⟨i, rfl, hi, rfl, rfl⟩
  refine And.intro (fun h1 => ?_) (fun h1 => ?_)
  · have hlt : i < xs.length := lt_map h1
    repeat refine And.intro rfl ?_
    refine And.intro (by kernel_rfl) ?_
    repeat refine And.intro rfl ?_
    repeat refine And.intro rfl ?_
    refine ix_at (e := GateLedger.e) (xs := xs) (hlt) rfl ?_
    repeat refine And.intro rfl ?_
    repeat refine And.intro rfl ?_
    refine ix_at (e := GateLedger.e) (xs := xs) (hlt) rfl ?_
    repeat refine And.intro rfl ?_
    repeat refine And.intro rfl ?_
    refine Or.inl (Exists.intro _ (And.intro (eq_GateLedger _) ?_))
    repeat refine And.intro rfl ?_
    refine And.intro (fun h => absurd h (by simp)) (fun _ => ?_)
    exact ⟨_, _, _, ⟨i + 1, rfl, hlt, rfl, rfl⟩, by omega, rfl, rfl, ⟨rfl, rfl, nd (wrap_succ hlt hs), trivial⟩, trivial, trivial⟩
  · rfl
theorem eq_GatePurse (x : GatePurse) : Spec P 88 [st x.e, st x.e] (.d (.bool true)) := by
  refine Spec.of_vc vcT vcM [.tmp 4] Tryz.func88 rfl rfl rfl rfl (fun hok => ?_)
  repeat refine And.intro rfl ?_
  refine And.intro (fun h => absurd h (by simp)) (fun _ => ?_)
  repeat refine And.intro rfl ?_
  refine And.intro (fun h => absurd h (by simp)) (fun _ => ?_)
  repeat refine And.intro rfl ?_
  refine And.intro (fun h => absurd h (by simp)) (fun _ => ?_)
  repeat refine And.intro rfl ?_
  refine And.intro (fun h => absurd h (by simp)) (fun _ => ?_)
  repeat refine And.intro rfl ?_
  refine And.intro (fun h => absurd h (by simp)) (fun _ => ?_)
  repeat refine And.intro rfl ?_
  rfl
theorem eq_GatePurseS (xs : List GatePurse) : Spec P 47 [.d (lGatePurse xs), .d (lGatePurse xs)] (.d (.bool true)) := by
  refine Spec.of_vc vcT vcM [.tmp 4] Tryz.func47 rfl rfl rfl rfl (fun hok => ?_)
  have hs : xs.length ≤ big := by have := hok.1.1; rwa [List.length_map] at this
  repeat refine And.intro rfl ?_
  refine And.intro (fun h => absurd h (by simp)) (fun _ => ?_)
  refine ⟨fun k l h => ∃ i : Nat, k = xs.length - i ∧ i ≤ xs.length ∧ l = [(0, .d (lGatePurse xs)), (1, .d (lGatePurse xs)), (5, .d (.int .i64 i))] ∧ h = hp0,
    ⟨_, _, _, ⟨0, rfl, Nat.zero_le _, rfl, rfl⟩, rfl, rfl, ⟨rfl, rfl, rfl, trivial⟩, trivial, trivial⟩, ?_⟩
  rintro k l h1 ⟨i, rfl, hi, rfl, rfl⟩
  refine And.intro (fun h1 => ?_) (fun h1 => ?_)
  · have hlt : i < xs.length := lt_map h1
    repeat refine And.intro rfl ?_
    refine And.intro (by kernel_rfl) ?_
    repeat refine And.intro rfl ?_
    repeat refine And.intro rfl ?_
    refine ix_at (e := GatePurse.e) (xs := xs) (hlt) rfl ?_
    repeat refine And.intro rfl ?_
    repeat refine And.intro rfl ?_
    refine ix_at (e := GatePurse.e) (xs := xs) (hlt) rfl ?_
    repeat refine And.intro rfl ?_
    repeat refine And.intro rfl ?_
    refine Or.inl (Exists.intro _ (And.intro (eq_GatePurse _) ?_))
    repeat refine And.intro rfl ?_
    refine And.intro (fun h => absurd h (by simp)) (fun _ => ?_)
    exact ⟨_, _, _, ⟨i + 1, rfl, hlt, rfl, rfl⟩, by omega, rfl, rfl, ⟨rfl, rfl, nd (wrap_succ hlt hs), trivial⟩, trivial, trivial⟩
  · rfl
theorem eq_GateBook (x : GateBook) : Spec P 15 [st x.e, st x.e] (.d (.bool true)) := by
  refine Spec.of_vc vcT vcM [.tmp 4] Tryz.func15 rfl rfl rfl rfl (fun hok => ?_)
  repeat refine And.intro rfl ?_
  refine And.intro (fun h => absurd h (by simp)) (fun _ => ?_)
  repeat refine And.intro rfl ?_
  refine And.intro (fun h => absurd h (by simp)) (fun _ => ?_)
  repeat refine And.intro rfl ?_
  refine And.intro (fun h => absurd h (by simp)) (fun _ => ?_)
  repeat refine And.intro rfl ?_
  refine Or.inl (Exists.intro _ (And.intro (eq_GateObjectS _) ?_))
  repeat refine And.intro rfl ?_
  refine And.intro (fun h => absurd h (by simp)) (fun _ => ?_)
  repeat refine And.intro rfl ?_
  refine Or.inl (Exists.intro _ (And.intro (eq_GateGrantS _) ?_))
  repeat refine And.intro rfl ?_
  refine And.intro (fun h => absurd h (by simp)) (fun _ => ?_)
  repeat refine And.intro rfl ?_
  refine Or.inl (Exists.intro _ (And.intro (eq_GateLedgerS _) ?_))
  repeat refine And.intro rfl ?_
  refine And.intro (fun h => absurd h (by simp)) (fun _ => ?_)
  repeat refine And.intro rfl ?_
  refine Or.inl (Exists.intro _ (And.intro (eq_GatePurseS _) ?_))
  repeat refine And.intro rfl ?_
  refine And.intro (fun h => absurd h (by simp)) (fun _ => ?_)
  repeat refine And.intro rfl ?_
  rfl
theorem eq_GateAsk (x : GateAsk) : Spec P 211 [st x.e, st x.e] (.d (.bool true)) := by
  refine Spec.of_vc vcT vcM [.tmp 4] Tryz.func211 rfl rfl rfl rfl (fun hok => ?_)
  repeat refine And.intro rfl ?_
  refine And.intro (fun h => absurd h (by simp)) (fun _ => ?_)
  repeat refine And.intro rfl ?_
  refine And.intro (fun h => absurd h (by simp)) (fun _ => ?_)
  repeat refine And.intro rfl ?_
  refine And.intro (fun h => absurd h (by simp)) (fun _ => ?_)
  repeat refine And.intro rfl ?_
  refine And.intro (fun h => absurd h (by simp)) (fun _ => ?_)
  repeat refine And.intro rfl ?_
  refine And.intro (fun h => absurd h (by simp)) (fun _ => ?_)
  repeat refine And.intro rfl ?_
  refine Or.inl (Exists.intro _ (And.intro (eq_StringS _) ?_))
  repeat refine And.intro rfl ?_
  refine And.intro (fun h => absurd h (by simp)) (fun _ => ?_)
  repeat refine And.intro rfl ?_
  refine Or.inl (Exists.intro _ (And.intro (eq_StringS _) ?_))
  repeat refine And.intro rfl ?_
  refine And.intro (fun h => absurd h (by simp)) (fun _ => ?_)
  repeat refine And.intro rfl ?_
  refine And.intro (fun h => absurd h (by simp)) (fun _ => ?_)
  repeat refine And.intro rfl ?_
  refine And.intro (fun h => absurd h (by simp)) (fun _ => ?_)
  repeat refine And.intro rfl ?_
  refine And.intro (fun h => absurd h (by simp)) (fun _ => ?_)
  repeat refine And.intro rfl ?_
  refine Or.inl (Exists.intro _ (And.intro (eq_GateRule _) ?_))
  repeat refine And.intro rfl ?_
  refine And.intro (fun h => absurd h (by simp)) (fun _ => ?_)
  repeat refine And.intro rfl ?_
  refine And.intro (fun h => absurd h (by simp)) (fun _ => ?_)
  repeat refine And.intro rfl ?_
  rfl
theorem eq_GateWant (x : GateWant) : Spec P 222 [st x.e, st x.e] (.d (.bool true)) := by
  refine Spec.of_vc vcT vcM [.tmp 4] Tryz.func222 rfl rfl rfl rfl (fun hok => ?_)
  repeat refine And.intro rfl ?_
  refine And.intro (fun h => absurd h (by simp)) (fun _ => ?_)
  repeat refine And.intro rfl ?_
  refine And.intro (fun h => absurd h (by simp)) (fun _ => ?_)
  repeat refine And.intro rfl ?_
  refine And.intro (fun h => absurd h (by simp)) (fun _ => ?_)
  repeat refine And.intro rfl ?_
  rfl
theorem eq_GateWantS (xs : List GateWant) : Spec P 212 [.d (lGateWant xs), .d (lGateWant xs)] (.d (.bool true)) := by
  refine Spec.of_vc vcT vcM [.tmp 4] Tryz.func212 rfl rfl rfl rfl (fun hok => ?_)
  have hs : xs.length ≤ big := by have := hok.1.1; rwa [List.length_map] at this
  repeat refine And.intro rfl ?_
  refine And.intro (fun h => absurd h (by simp)) (fun _ => ?_)
  refine ⟨fun k l h => ∃ i : Nat, k = xs.length - i ∧ i ≤ xs.length ∧ l = [(0, .d (lGateWant xs)), (1, .d (lGateWant xs)), (5, .d (.int .i64 i))] ∧ h = hp0,
    ⟨_, _, _, ⟨0, rfl, Nat.zero_le _, rfl, rfl⟩, rfl, rfl, ⟨rfl, rfl, rfl, trivial⟩, trivial, trivial⟩, ?_⟩
  rintro k l h1 ⟨i, rfl, hi, rfl, rfl⟩
  refine And.intro (fun h1 => ?_) (fun h1 => ?_)
  · have hlt : i < xs.length := lt_map h1
    repeat refine And.intro rfl ?_
    refine And.intro (by kernel_rfl) ?_
    repeat refine And.intro rfl ?_
    repeat refine And.intro rfl ?_
    refine ix_at (e := GateWant.e) (xs := xs) (hlt) rfl ?_
    repeat refine And.intro rfl ?_
    repeat refine And.intro rfl ?_
    refine ix_at (e := GateWant.e) (xs := xs) (hlt) rfl ?_
    repeat refine And.intro rfl ?_
    repeat refine And.intro rfl ?_
    refine Or.inl (Exists.intro _ (And.intro (eq_GateWant _) ?_))
    repeat refine And.intro rfl ?_
    refine And.intro (fun h => absurd h (by simp)) (fun _ => ?_)
    exact ⟨_, _, _, ⟨i + 1, rfl, hlt, rfl, rfl⟩, by omega, rfl, rfl, ⟨rfl, rfl, nd (wrap_succ hlt hs), trivial⟩, trivial, trivial⟩
  · rfl
theorem eq_GateSlip (x : GateSlip) : Spec P 186 [st x.e, st x.e] (.d (.bool true)) := by
  refine Spec.of_vc vcT vcM [.tmp 4] Tryz.func186 rfl rfl rfl rfl (fun hok => ?_)
  repeat refine And.intro rfl ?_
  refine And.intro (fun h => absurd h (by simp)) (fun _ => ?_)
  repeat refine And.intro rfl ?_
  refine Or.inl (Exists.intro _ (And.intro (eq_GateAsk _) ?_))
  repeat refine And.intro rfl ?_
  refine And.intro (fun h => absurd h (by simp)) (fun _ => ?_)
  repeat refine And.intro rfl ?_
  refine And.intro (fun h => absurd h (by simp)) (fun _ => ?_)
  repeat refine And.intro rfl ?_
  refine Or.inl (Exists.intro _ (And.intro (eq_GateWantS _) ?_))
  repeat refine And.intro rfl ?_
  refine And.intro (fun h => absurd h (by simp)) (fun _ => ?_)
  repeat refine And.intro rfl ?_
  rfl
theorem eq_GateSlipS (xs : List GateSlip) : Spec P 143 [.d (lGateSlip xs), .d (lGateSlip xs)] (.d (.bool true)) := by
  refine Spec.of_vc vcT vcM [.tmp 4] Tryz.func143 rfl rfl rfl rfl (fun hok => ?_)
  have hs : xs.length ≤ big := by have := hok.1.1; rwa [List.length_map] at this
  repeat refine And.intro rfl ?_
  refine And.intro (fun h => absurd h (by simp)) (fun _ => ?_)
  refine ⟨fun k l h => ∃ i : Nat, k = xs.length - i ∧ i ≤ xs.length ∧ l = [(0, .d (lGateSlip xs)), (1, .d (lGateSlip xs)), (5, .d (.int .i64 i))] ∧ h = hp0,
    ⟨_, _, _, ⟨0, rfl, Nat.zero_le _, rfl, rfl⟩, rfl, rfl, ⟨rfl, rfl, rfl, trivial⟩, trivial, trivial⟩, ?_⟩
  rintro k l h1 ⟨i, rfl, hi, rfl, rfl⟩
  refine And.intro (fun h1 => ?_) (fun h1 => ?_)
  · have hlt : i < xs.length := lt_map h1
    repeat refine And.intro rfl ?_
    refine And.intro (by kernel_rfl) ?_
    repeat refine And.intro rfl ?_
    repeat refine And.intro rfl ?_
    refine ix_at (e := GateSlip.e) (xs := xs) (hlt) rfl ?_
    repeat refine And.intro rfl ?_
    repeat refine And.intro rfl ?_
    refine ix_at (e := GateSlip.e) (xs := xs) (hlt) rfl ?_
    repeat refine And.intro rfl ?_
    repeat refine And.intro rfl ?_
    refine Or.inl (Exists.intro _ (And.intro (eq_GateSlip _) ?_))
    repeat refine And.intro rfl ?_
    refine And.intro (fun h => absurd h (by simp)) (fun _ => ?_)
    exact ⟨_, _, _, ⟨i + 1, rfl, hlt, rfl, rfl⟩, by omega, rfl, rfl, ⟨rfl, rfl, nd (wrap_succ hlt hs), trivial⟩, trivial, trivial⟩
  · rfl
theorem eq_GateDoor (x : GateDoor) : Spec P 95 [st x.e, st x.e] (.d (.bool true)) := by
  refine Spec.of_vc vcT vcM [.tmp 4] Tryz.func95 rfl rfl rfl rfl (fun hok => ?_)
  repeat refine And.intro rfl ?_
  refine And.intro (fun h => absurd h (by simp)) (fun _ => ?_)
  repeat refine And.intro rfl ?_
  refine And.intro (fun h => absurd h (by simp)) (fun _ => ?_)
  repeat refine And.intro rfl ?_
  refine Or.inl (Exists.intro _ (And.intro (eq_GateBook _) ?_))
  repeat refine And.intro rfl ?_
  refine And.intro (fun h => absurd h (by simp)) (fun _ => ?_)
  repeat refine And.intro rfl ?_
  refine Or.inl (Exists.intro _ (And.intro (eq_GateSlipS _) ?_))
  repeat refine And.intro rfl ?_
  refine And.intro (fun h => absurd h (by simp)) (fun _ => ?_)
  repeat refine And.intro rfl ?_
  rfl
theorem eq_GateDoorS (xs : List GateDoor) : Spec P 52 [.d (lGateDoor xs), .d (lGateDoor xs)] (.d (.bool true)) := by
  refine Spec.of_vc vcT vcM [.tmp 4] Tryz.func52 rfl rfl rfl rfl (fun hok => ?_)
  have hs : xs.length ≤ big := by have := hok.1.1; rwa [List.length_map] at this
  repeat refine And.intro rfl ?_
  refine And.intro (fun h => absurd h (by simp)) (fun _ => ?_)
  refine ⟨fun k l h => ∃ i : Nat, k = xs.length - i ∧ i ≤ xs.length ∧ l = [(0, .d (lGateDoor xs)), (1, .d (lGateDoor xs)), (5, .d (.int .i64 i))] ∧ h = hp0,
    ⟨_, _, _, ⟨0, rfl, Nat.zero_le _, rfl, rfl⟩, rfl, rfl, ⟨rfl, rfl, rfl, trivial⟩, trivial, trivial⟩, ?_⟩
  rintro k l h1 ⟨i, rfl, hi, rfl, rfl⟩
  refine And.intro (fun h1 => ?_) (fun h1 => ?_)
  · have hlt : i < xs.length := lt_map h1
    repeat refine And.intro rfl ?_
    refine And.intro (by kernel_rfl) ?_
    repeat refine And.intro rfl ?_
    repeat refine And.intro rfl ?_
    refine ix_at (e := GateDoor.e) (xs := xs) (hlt) rfl ?_
    repeat refine And.intro rfl ?_
    repeat refine And.intro rfl ?_
    refine ix_at (e := GateDoor.e) (xs := xs) (hlt) rfl ?_
    repeat refine And.intro rfl ?_
    repeat refine And.intro rfl ?_
    refine Or.inl (Exists.intro _ (And.intro (eq_GateDoor _) ?_))
    repeat refine And.intro rfl ?_
    refine And.intro (fun h => absurd h (by simp)) (fun _ => ?_)
    exact ⟨_, _, _, ⟨i + 1, rfl, hlt, rfl, rfl⟩, by omega, rfl, rfl, ⟨rfl, rfl, nd (wrap_succ hlt hs), trivial⟩, trivial, trivial⟩
  · rfl
theorem eq_GateWorld (x : GateWorld) : Spec P 20 [st x.e, st x.e] (.d (.bool true)) := by
  refine Spec.of_vc vcT vcM [.tmp 4] Tryz.func20 rfl rfl rfl rfl (fun hok => ?_)
  repeat refine And.intro rfl ?_
  refine Or.inl (Exists.intro _ (And.intro (eq_GateBook _) ?_))
  repeat refine And.intro rfl ?_
  refine And.intro (fun h => absurd h (by simp)) (fun _ => ?_)
  repeat refine And.intro rfl ?_
  refine Or.inl (Exists.intro _ (And.intro (eq_GateDoorS _) ?_))
  repeat refine And.intro rfl ?_
  refine And.intro (fun h => absurd h (by simp)) (fun _ => ?_)
  repeat refine And.intro rfl ?_
  rfl
end Go.Vc
end

section
namespace Go.Vc
open Go.Proofs Go.Proofs.YtpcmdecphigjaaaGreatDoor Go.ChangeShapes Go.WideShapes Go.RowKit
set_option maxRecDepth 100000
set_option pp.maxSteps 400
set_option pp.deepTerms false
set_option linter.unusedSimpArgs false
set_option linter.unusedVariables false
theorem fnLaw (L : GateLaw) (b : GateBook) (who : Bs) (a : GateAct) : Spec P 3 [st L.e, st b.e, .d (.str who), st a.e] (.d (.bool true)) := by
  refine Spec.of_vc vcT vcM [.tmp 8] Tryz.func3 rfl rfl rfl rfl (fun hok => ?_)
  obtain ⟨m0, h0⟩ := szGateLaw
  obtain ⟨m1, h1⟩ := szGateBook
  obtain ⟨m3, h3⟩ := szGateAct
  repeat refine And.intro rfl ?_
  refine And.intro (fun g2 => ?_) (fun g2 => ?_)
  · rfl
  repeat refine And.intro rfl ?_
  refine Or.inl (Exists.intro _ (And.intro (h0 L _) ?_))
  repeat refine And.intro rfl ?_
  refine And.intro (fun g0 => ?_) (fun g0 => ?_)
  · rfl
  repeat refine And.intro rfl ?_
  refine Or.inl (Exists.intro _ (And.intro (h1 b _) ?_))
  repeat refine And.intro rfl ?_
  refine And.intro (fun g1 => ?_) (fun g1 => ?_)
  · rfl
  repeat refine And.intro rfl ?_
  refine Or.inl (Exists.intro _ (And.intro (h3 a _) ?_))
  repeat refine And.intro rfl ?_
  refine And.intro (fun g3 => ?_) (fun g3 => ?_)
  · rfl
  repeat refine And.intro rfl ?_
  refine And.intro (by kernel_rfl) ?_
  repeat refine And.intro rfl ?_
  repeat refine And.intro rfl ?_
  refine Or.inl (Exists.intro _ (And.intro (to_GateLaw L) ?_))
  repeat refine And.intro rfl ?_
  refine Or.inl (Exists.intro _ (And.intro (to_GateBook b) ?_))
  repeat refine And.intro rfl ?_
  refine Or.inl (Exists.intro _ (And.intro (to_GateAct a) ?_))
  repeat refine And.intro rfl ?_
  refine Or.inl (Exists.intro _ (And.intro (s_GateMay L b who a) ?_))
  repeat refine And.intro rfl ?_
  refine Or.inl (Exists.intro _ (And.intro (to_GateLaw L) ?_))
  repeat refine And.intro rfl ?_
  refine Or.inl (Exists.intro _ (And.intro (to_GateBook b) ?_))
  repeat refine And.intro rfl ?_
  refine And.intro (by kernel_rfl) ?_
  repeat refine And.intro rfl ?_
  repeat refine And.intro rfl ?_
  refine Or.inl (Exists.intro _ (And.intro (to_GateAct a) ?_))
  repeat refine And.intro rfl ?_
  refine Or.inl (Exists.intro _ (And.intro (i_GateMay L b who a) ?_))
  repeat refine And.intro rfl ?_
  refine And.intro (fun h => absurd h (by simp)) (fun _ => ?_)
  repeat refine And.intro rfl ?_
  refine And.intro (by kernel_rfl) ?_
  repeat refine And.intro rfl ?_
  repeat refine And.intro rfl ?_
  refine Or.inl (Exists.intro _ (And.intro (to_GateLaw L) ?_))
  repeat refine And.intro rfl ?_
  refine Or.inl (Exists.intro _ (And.intro (eq_GateLaw L) ?_))
  repeat refine And.intro rfl ?_
  refine And.intro (fun h => absurd h (by simp)) (fun _ => ?_)
  repeat refine And.intro rfl ?_
  refine And.intro (by kernel_rfl) ?_
  repeat refine And.intro rfl ?_
  repeat refine And.intro rfl ?_
  refine Or.inl (Exists.intro _ (And.intro (to_GateBook b) ?_))
  repeat refine And.intro rfl ?_
  refine Or.inl (Exists.intro _ (And.intro (eq_GateBook b) ?_))
  repeat refine And.intro rfl ?_
  refine And.intro (fun h => absurd h (by simp)) (fun _ => ?_)
  repeat refine And.intro rfl ?_
  rfl
theorem contract (H : Type) (enc : TypeId × Value → H) (W : World) (base : Nat) (args : Array Value) (ds gs : List (DataW H)) (before : List MemPlace)
    (hval : ∀ (j : Nat) t v, Tryz.f3.params[j]? = some t → args[j]? = some v → Value.okWide Tryz.prog W .any base t v)
    (hW : DataW.Whole enc Tryz.prog Tryz.f3.params.toList Rows.fnExactGateMaySpec.vars false W args.toList ds gs before) (hk : Rows.uptoSmall H (ds ++ gs) = true) (hL : laidMetH Tryz.prog laidE W) :
    Calls Tryz.prog 3 args W fun e W' => ∃ v, e = .returned v ∧ Rows.fnExactGateMaySpec.post enc Tryz.prog Tryz.f3 false true false false W args v W' := by
  have hW' := hW
  obtain ⟨p, q, hA0, hV, rfl, hfz, hnd⟩ := hW
  obtain ⟨rfl, rfl⟩ := trodVars_none hV
  have hA : DataW.TrodAll enc Tryz.prog W 0 (fun _ => true) true [26, 32, 9, 34] args.toList ds p := hA0
  have hp : Tryz.f3.params = #[26, 32, 9, 34] := rfl
  rw [hp] at hval
  obtain ⟨v0, vs0, d0, ds0, p0, q0, hargs, rfl, rfl, h0, r0⟩ := trodAll_cons hA
  obtain ⟨v1, vs1, d1, ds1, p1, q1, rfl, rfl, rfl, h1, r1⟩ := trodAll_cons r0
  obtain ⟨v2, vs2, d2, ds2, p2, q2, rfl, rfl, rfl, h2, r2⟩ := trodAll_cons r1
  obtain ⟨v3, vs3, d3, ds3, p3, q3, rfl, rfl, rfl, h3, r3⟩ := trodAll_cons r2
  obtain ⟨rfl, rfl, rfl⟩ := trodAll_nil r3
  obtain rfl : args = #[v0, v1, v2, v3] := by cases args; simp_all
  have hsmall : Rows.uptoBulk d0 + (Rows.uptoBulk d1 + (Rows.uptoBulk d2 + (Rows.uptoBulk d3 + 0))) ≤ 1048576 := by
    have := of_decide_eq_true hk
    simpa only [List.append_nil, Rows.uptoBulkAll] using this
  obtain ⟨n0, t0⟩ := h0
  obtain ⟨n1, t1⟩ := h1
  obtain ⟨n2, t2⟩ := h2
  obtain ⟨n3, t3⟩ := h3
  obtain ⟨e0, g0, s0⟩ := trod_rd (P := P) (n := 12) (by kernel_rfl) t0 (by unfold big; omega)
  obtain ⟨e1, g1, s1⟩ := trod_rd (P := P) (n := 12) (by kernel_rfl) t1 (by unfold big; omega)
  obtain ⟨e2, g2, s2⟩ := trod_rd (P := P) (n := 12) (by kernel_rfl) t2 (by unfold big; omega)
  obtain ⟨e3, g3, s3⟩ := trod_rd (P := P) (n := 12) (by kernel_rfl) t3 (by unfold big; omega)
  have lg := lg_of_laid hL
  replace g0 := Rd.beside lg.ifc g0 (shape_pl s0)
  replace g1 := Rd.beside lg.ifc g1 (shape_pl s1)
  replace g2 := Rd.beside lg.ifc g2 (shape_pl s2)
  replace g3 := Rd.beside lg.ifc g3 (shape_pl s3)
  obtain ⟨L, rfl⟩ := un_GateLaw s0
  obtain ⟨b, rfl⟩ := un_GateBook s1
  obtain ⟨who, rfl⟩ := un_string s2
  obtain ⟨a, rfl⟩ := un_GateAct s3
  have k0 := hval 0 26 v0 rfl rfl
  have k1 := hval 1 32 v1 rfl rfl
  have k2 := hval 2 9 v2 rfl rfl
  have k3 := hval 3 34 v3 rfl rfl
  obtain ⟨f0, hu0⟩ : ∃ fs, P.underlying 26 = some (.struct fs) := structT_of (by kernel_rfl)
  obtain ⟨c0, rfl⟩ := agg_of hu0 k0
  obtain ⟨f1, hu1⟩ : ∃ fs, P.underlying 32 = some (.struct fs) := structT_of (by kernel_rfl)
  obtain ⟨c1, rfl⟩ := agg_of hu1 k1
  obtain ⟨c2, rfl⟩ := strV_of (show P.underlying 9 = some .string from by kernel_rfl) k2
  obtain ⟨f3, hu3⟩ : ∃ fs, P.underlying 34 = some (.struct fs) := structT_of (by kernel_rfl)
  obtain ⟨c3, rfl⟩ := agg_of hu3 k3
  have hr : Rv W lgN (fun _ => undef) [st L.e, st b.e, .d (.str who), st a.e] [.agg c0, .agg c1, .string c2, .agg c3] := by
    have g0 : Rd W lgN L.e c0.toList := g0
    have g1 : Rd W lgN b.e c1.toList := g1
    have g2 : Rd W lgN [.str who] [.string c2] := g2
    have g3 : Rd W lgN a.e c3.toList := g3
    have a0 := Rv.ofRd (ν := fun _ => undef) g0
    have a1 := Rv.ofRd (ν := fun _ => undef) g1
    have a3 := Rv.ofRd (ν := fun _ => undef) g3
    have := Rv.agg _ a0 (Rv.agg _ a1 (Rv.d g2 (Rv.agg _ a3 .nil)))
    show Rv W lgN (fun _ => undef) [.agg (L.e.map .d), .agg (b.e.map .d), .d (.str who), .agg (a.e.map .d)] [.agg c0, .agg c1, .string c2, .agg c3]
    simpa using this
  refine ((fnLaw L b who a).2 lgN W [.agg c0, .agg c1, .string c2, .agg c3] lg.bnd lg.lw hr).mono fun e W' ⟨v, he, hkp, hv⟩ => ?_
  obtain rfl := rv_bool hv
  subst he
  exact ⟨_, rfl, post_same (by kernel_rfl) (by kernel_rfl) (by kernel_rfl) (by decide) rfl rfl (show P.underlying 4 = some .bool from by kernel_rfl) hW' hkp rfl⟩
theorem reads (os : Os) {H : Type} (enc : TypeId × Value → H) : ∃ places, DataW.whole enc Tryz.prog ((laidWorld os).forCall (fun _ _ => 0) ⟨#[], #[.agg #[.slice none 0 0, .slice none 0 0, .slice none 0 0], .agg #[.int .i64 0, .int .i64 0, .int .i64 0, .slice none 0 0, .slice none 0 0, .slice none 0 0, .slice none 0 0], .string ⟨#[]⟩, .agg #[.int .i64 0, .string ⟨#[]⟩, .string ⟨#[]⟩, .string ⟨#[]⟩]], []⟩).memory Tryz.f3.params.toList Rows.fnExactGateMaySpec.vars false (#[.agg #[.slice none 0 0, .slice none 0 0, .slice none 0 0], .agg #[.int .i64 0, .int .i64 0, .int .i64 0, .slice none 0 0, .slice none 0 0, .slice none 0 0, .slice none 0 0], .string ⟨#[]⟩, .agg #[.int .i64 0, .string ⟨#[]⟩, .string ⟨#[]⟩, .string ⟨#[]⟩]] : Array Value).toList 12 = some ([.agg [.nil, .nil, .nil], .agg [.lit (.int .i64 0), .lit (.int .i64 0), .lit (.int .i64 0), .nil, .nil, .nil, .nil], .lit (.string []), .agg [.lit (.int .i64 0), .lit (.string []), .lit (.string []), .lit (.string [])]], [], places) :=
  ⟨[], by kernel_rfl⟩
theorem lifted (os : Os) (started : os.Started) (H : Type) (enc : TypeId × Value → H) (F : Stop.Interp) :
    ReturnsInHanded {} Tryz.checked os 3 .any ((Rows.OpenSpec.upto Rows.fnExactGateMaySpec).preRow enc Tryz.prog Tryz.f3 Rows.fnExactGateMayUptoRow.domain false Rows.fnExactGateMayUptoRow.laid) (((Rows.OpenSpec.upto Rows.fnExactGateMaySpec).at F).post enc Tryz.prog Tryz.f3 false true false false) := by
  obtain ⟨places, hx⟩ := reads os enc
  refine returnsInHanded_of_row (C := Tryz.checked) (s := Rows.OpenSpec.upto Rows.fnExactGateMaySpec) own started (by kernel_rfl) Tryz.func3
    (witness_row_at (enc := enc) (C := Tryz.checked) false (laidWorld os) #[.agg #[.slice none 0 0, .slice none 0 0, .slice none 0 0], .agg #[.int .i64 0, .int .i64 0, .int .i64 0, .slice none 0 0, .slice none 0 0, .slice none 0 0, .slice none 0 0], .string ⟨#[]⟩, .agg #[.int .i64 0, .string ⟨#[]⟩, .string ⟨#[]⟩, .string ⟨#[]⟩]] rfl (by kernel_rfl) (by kernel_rfl) (by kernel_rfl)
      (OpenSpec.preRow_of_cond 12 hx (by kernel_rfl) (fun k hk => by cases hk; kernel_rfl) (by kernel_rfl) (laid_met os _))) ?_
  intro W base args ds gs before hval hW _ hcond _ hL _ _
  exact contract H enc W base args ds gs before hval hW (hcond _ rfl) hL
theorem fact1 : (Rows.fnExactGateMayUptoRow.inPlace == Tryz.pinned.checked.prog.inPlace 3) = true := by kernel_rfl
theorem fact2 : (Rows.fnExactGateMayUptoRow.unfollowed == Tryz.pinned.checked.prog.unfollowed 3) = true := by kernel_rfl
theorem fact3 : (Rows.fnExactGateMayUptoRow.recurses == Tryz.pinned.checked.prog.recurses 3) = true := by kernel_rfl
theorem fact4 : (Rows.fnExactGateMayUptoRow.named == Tryz.pinned.checked.prog.varsNamed 3) = true := by kernel_rfl
theorem facts : joinedFacts Tryz.pinned.checked.prog 3 Tryz.f3 (Rows.OpenSpec.upto Rows.fnExactGateMaySpec).bare Rows.fnExactGateMayUptoRow = true := by
  unfold joinedFacts
  rw [fact1, fact2, fact3, fact4]
  kernel_rfl
theorem wraps : Tryz.f3.isWrapper Tryz.pinned.checked.prog Rows.fnExactGateMayUptoRow.wrapper Rows.fnExactGateMayUptoRow.mainSum := by
  unfold Func.isWrapper
  first | (rw [if_pos (by decide +kernel)]; kernel_rfl) | (rw [if_neg (by decide +kernel)]; exact ⟨rfl, rfl⟩)
theorem lawHolds : Rows.fnExactGateMayUptoRow.holds Tryz.pinned (Rows.OpenSpec.upto Rows.fnExactGateMaySpec) :=
  OpenClaim.holds_of_cond 3 Tryz.f3 rfl rfl rfl rfl rfl rfl rfl ⟨rfl, rfl, rfl, rfl, rfl⟩ rfl rfl rfl rfl rfl (by kernel_rfl) Tryz.func3 facts
    (of_decide_eq_true (by kernel_rfl)) wraps
    (fun os started H enc _ F => by rw [OpenClaim.pre_eq_preRow]; exact lifted os started H enc F)
theorem noStandIn : ∀ t ∈ Tryz.f3.params.toList, Tryz.prog.wantsStandIn t = false := by
  have h : Tryz.f3.params.toList.all (fun t => !Tryz.prog.wantsStandIn t) = true := by kernel_rfl
  intro t ht
  have := List.all_eq_true.1 h t ht
  simpa using this
theorem plainLooks (f : FuncId) (fn : Func) (hf : Tryz.pinned.checked.prog.funcNamed "loop.example/wharfhall/laws.FnExactGateMay" = some f) (hfn : Tryz.pinned.checked.prog.funcs[f]? = some fn) :
    true = Tryz.pinned.checked.prog.looks [] ∧ ∀ (j : Nat) t, fn.params[j]? = some t → Tryz.pinned.checked.prog.wantsStandIn t = false := by
  obtain rfl : f = 3 := Option.some.inj ((show Tryz.prog.funcNamed "loop.example/wharfhall/laws.FnExactGateMay" = some 3 by kernel_rfl).symm.trans hf) |>.symm
  obtain rfl : fn = Tryz.f3 := (Option.some.inj (Tryz.func3.symm.trans hfn)).symm
  exact ⟨by kernel_rfl, fun j t ht => noStandIn t (by simpa using Array.mem_of_getElem? ht)⟩
theorem cardHolds : Rows.FnExactGateMayUptoCardSaid :=
  Claim7.holds_tied_plain_at .later [] _ _ _ _ lawHolds (fun _ h => by cases h) (by kernel_rfl) (fun _ h => by cases h) fnExactGateMayUpto_row_tie rfl ⟨rfl, rfl⟩ (by kernel_rfl) rfl plainLooks (by kernel_rfl)
end Go.Vc
namespace Go.Proofs.YtpcmdecphigjaaaGreatDoor
/-- GateMay of the program answers as the specification's. -/
theorem exactGateMay : Rows.FnExactGateMayUptoCardSaid := Go.Vc.cardHolds
end Go.Proofs.YtpcmdecphigjaaaGreatDoor
end
