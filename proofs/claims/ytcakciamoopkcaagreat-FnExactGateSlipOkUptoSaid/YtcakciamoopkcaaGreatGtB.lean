import Derived.Test.YtcakciamoopkcaaGreatGtP
namespace Go.Vc
open Go.Proofs
set_option maxRecDepth 100000
set_option pp.maxSteps 400
set_option pp.deepTerms false
set_option linter.unusedSimpArgs false
theorem s_l1In (a b c : Int) : Spec P 65 [.d (.int .i64 a), .d (.int .i64 b), .d (.int .i64 c)] (.d (.bool (inR a b c))) := by
  refine Spec.of_vc vcT vcM [.tmp 6] Tryz.func65 rfl rfl rfl rfl (fun hok => ?_)
  repeat refine And.intro rfl ?_
  refine And.intro (fun h => ?_) (fun h => ?_)
  all_goals (refine bd ?_; simp only [inR, h, Bool.true_and, Bool.false_and])
theorem s_l1Byte (c : UInt8) : Spec P 66 [.d (.int .u8 c.toNat)] (.d (.bool (nmByte c))) := by
  refine Spec.of_vc vcT vcM [.tmp 2] Tryz.func66 rfl rfl rfl rfl (fun hok => ?_)
  repeat' refine And.intro (fun h => ?_) (fun h => ?_)
  all_goals (refine bd ?_; simp only [nmByte, *, Bool.true_and, Bool.false_and, Bool.true_or, Bool.false_or])
theorem s_l1NameOk (s : Bs) : Spec P 39 [.d (.str s)] (.d (.bool (nameOk s))) := by
  refine Spec.of_vc vcT vcM [.tmp 2] Tryz.func39 rfl rfl rfl rfl (fun hok => ?_)
  have hs : s.length ≤ big := hok.1
  repeat refine And.intro rfl ?_
  refine Or.inl (Exists.intro _ (And.intro (s_l1In _ _ _) ?_))
  repeat refine And.intro rfl ?_
  refine And.intro (fun h => ?_) (fun h => ?_)
  · exact bd (nameOk_no h)
  repeat refine And.intro rfl ?_
  refine ⟨fun m l h => ∃ (i : Nat) , m = s.length - i ∧ i ≤ s.length ∧ (nameOk s = (s.drop i).all nmByte) ∧ l = [(0, .d (.str s)), (3, .d (.int .i64 i))] ∧ h = hp0,
    ⟨_, _, _, ⟨0, rfl, Nat.zero_le _, nameOk_yes h, rfl, rfl⟩, rfl, rfl, ⟨rfl, rfl, trivial⟩, trivial, trivial⟩, ?_⟩
  rintro m l hh ⟨i, rfl, hi, hr, rfl, rfl⟩
  repeat refine And.intro rfl ?_
  refine And.intro (fun h1 => ?_) (fun h1 => ?_)
  · have hlt : i < s.length := lt_str h1
    repeat refine And.intro rfl ?_
    refine ix_str (hlt) ?_
    repeat refine And.intro rfl ?_
    repeat refine And.intro rfl ?_
    refine Or.inl (Exists.intro _ (And.intro (s_l1Byte _) ?_))
    rw [all_step hlt] at hr
    repeat refine And.intro rfl ?_
    refine And.intro (fun h2 => ?_) (fun h2 => ?_)
    · refine bd ?_
      rw [hr, show nmByte s[i] = false from by simpa using h2]; rfl
    · repeat refine And.intro rfl ?_
      exact ⟨_, _, _, ⟨i + 1, rfl, hlt, by rw [hr, show nmByte s[i] = true from by simpa using h2]; rfl, rfl, rfl⟩, by omega, rfl, rfl, ⟨rfl, nd (wrap_succ hlt hs), trivial⟩, trivial, trivial⟩
  · refine bd ?_
    rw [hr, all_end (ge_str h1)]
theorem i_nameByte (c : UInt8) : Spec P 74 [.d (.int .u8 c.toNat)] (.d (.bool (nmByte c))) := by
  refine Spec.of_vc vcT vcM [.tmp 2] Tryz.func74 rfl rfl rfl rfl (fun hok => ?_)
  repeat' refine And.intro (fun h => ?_) (fun h => ?_)
  all_goals (refine bd ?_; simp only [nmByte, *, Bool.true_and, Bool.false_and, Bool.true_or, Bool.false_or])
theorem i_nameBytes (s : Bs) : Spec P 47 [.d (.str s)] (.d (.bool (s.all nmByte))) := by
  refine Spec.of_vc vcT vcM [.tmp 2] Tryz.func47 rfl rfl rfl rfl (fun hok => ?_)
  have hs : s.length ≤ big := hok.1
  repeat refine And.intro rfl ?_
  refine ⟨fun m l h => ∃ (i : Nat) , m = s.length - i ∧ i ≤ s.length ∧ (s.all nmByte = (s.drop i).all nmByte) ∧ l = [(0, .d (.str s)), (5, .d (.int .i64 s.length)), (6, .d (.int .i64 i))] ∧ h = hp0,
    ⟨_, _, _, ⟨0, rfl, Nat.zero_le _, rfl, rfl, rfl⟩, rfl, rfl, ⟨rfl, rfl, rfl, trivial⟩, trivial, trivial⟩, ?_⟩
  rintro m l hh ⟨i, rfl, hi, hr, rfl, rfl⟩
  repeat refine And.intro rfl ?_
  refine And.intro (fun h1 => ?_) (fun h1 => ?_)
  · have hlt : i < s.length := lt_str h1
    repeat refine And.intro rfl ?_
    refine ix_str (hlt) ?_
    repeat refine And.intro rfl ?_
    repeat refine And.intro rfl ?_
    refine Or.inl (Exists.intro _ (And.intro (i_nameByte _) ?_))
    rw [all_step hlt] at hr
    repeat refine And.intro rfl ?_
    refine And.intro (fun h2 => ?_) (fun h2 => ?_)
    · refine bd ?_
      rw [hr, show nmByte s[i] = false from by simpa using h2]; rfl
    · repeat refine And.intro rfl ?_
      exact ⟨_, _, _, ⟨i + 1, rfl, hlt, by rw [hr, show nmByte s[i] = true from by simpa using h2]; rfl, rfl, rfl⟩, by omega, rfl, rfl, ⟨rfl, rfl, nd (wrap_succ hlt hs), trivial⟩, trivial, trivial⟩
  · refine bd ?_
    rw [hr, all_end (ge_str h1)]
theorem dec_len1 {s : Bs} : decide ((s.length : Int) ≥ 1) = decide (1 ≤ s.length) := by by_cases h : 1 ≤ s.length <;> simp [h] <;> omega
theorem dec_len16 {s : Bs} : decide ((s.length : Int) ≤ 16) = decide (s.length ≤ 16) := by by_cases h : s.length ≤ 16 <;> simp [h] <;> omega
theorem i_isName (s : Bs) : Spec P 24 [.d (.str s)] (.d (.bool (nameOk s))) := by
  refine Spec.of_vc vcT vcM [.tmp 2] Tryz.func24 rfl rfl rfl rfl (fun hok => ?_)
  repeat refine And.intro rfl ?_
  refine And.intro (fun h => ?_) (fun h => ?_)
  · repeat refine And.intro rfl ?_
    refine And.intro (fun h2 => ?_) (fun h2 => ?_)
    · repeat refine And.intro rfl ?_
      refine Or.inl (Exists.intro _ (And.intro (i_nameBytes _) ?_))
      refine bd ?_
      unfold nameOk
      rw [← dec_len1, ← dec_len16, h, h2]; rfl
    · refine bd ?_
      unfold nameOk
      rw [← dec_len1, ← dec_len16, h, h2]; rfl
  · refine bd ?_
    unfold nameOk
    rw [← dec_len1, ← dec_len16, h]; rfl
end Go.Vc
