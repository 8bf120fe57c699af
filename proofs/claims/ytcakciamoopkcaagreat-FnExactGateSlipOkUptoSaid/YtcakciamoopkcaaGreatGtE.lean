/- Contracts: the sorts of fields. -/
import Derived.Test.YtcakciamoopkcaaGreatGtD
namespace Go.Vc
open Go.Proofs
set_option maxRecDepth 100000
set_option pp.maxSteps 400
set_option pp.deepTerms false
set_option linter.unusedSimpArgs false
set_option linter.unusedVariables false
theorem num_len {s : Bs} (h1 : decide ((s.length : Int) < 1) = false) (h2 : decide ((s.length : Int) > 7) = false) : (!inR (s.length : Int) 1 7) = false := by
  have h1 := of_decide_eq_false h1
  have h2 := of_decide_eq_false h2
  simp only [inR, Bool.not_eq_false', Bool.and_eq_true, decide_eq_true_eq]
  omega
theorem num_len1 {s : Bs} (h1 : decide ((s.length : Int) < 1) = true) : numOf s = none := by
  have h1 := of_decide_eq_true h1
  refine numOf_no ?_
  simp only [inR, Bool.not_eq_true', Bool.and_eq_false_iff, decide_eq_false_iff_not]
  omega
theorem num_len7 {s : Bs} (h1 : decide ((s.length : Int) > 7) = true) : numOf s = none := by
  have h1 := of_decide_eq_true h1
  refine numOf_no ?_
  simp only [inR, Bool.not_eq_true', Bool.and_eq_false_iff, decide_eq_false_iff_not]
  omega
theorem num_room8 {n : Int} {i : Nat} {c : UInt8} (hn : 0 ≤ n ∧ n < 10 ^ i) (hi : i < 7) (h1 : decide ((c.toNat : Int) < 48) = false) (h2 : decide ((c.toNat : Int) > 57) = false) :
    IntKind.i64.wrap (IntKind.i64.wrap (n * 10) + IntKind.i64.wrap (IntKind.u8.wrap ((c.toNat : Int) - 48))) = n * 10 + (c.toNat : Int) - 48 := by
  have h1 := of_decide_eq_false h1
  have h2 := of_decide_eq_false h2
  have hle : (10 : Int) ^ i ≤ 10 ^ 6 := by
    have : (10 : Nat) ^ i ≤ 10 ^ 6 := Nat.pow_le_pow_right (by decide) (by omega)
    have h3 : ((10 ^ i : Nat) : Int) ≤ ((10 ^ 6 : Nat) : Int) := Int.ofNat_le.2 this
    simpa using h3
  simp only [IntKind.wrap_i64, IntKind.wrap_u8]
  generalize (10 : Int) ^ i = p at *
  omega
theorem td {a a' : Int} {b b' : Bool} (h : a = a') (h' : b = b') : AV.tup [.d (.int .i64 a), .d (.bool b)] = AV.tup [.d (.int .i64 a'), .d (.bool b')] := by rw [h, h']
theorem i_decimal (s : Bs) : Spec P 149 [.d (.str s)] (.tup [.d (.int .i64 (numD s)), .d (.bool (numOf s).isSome)]) := by
  refine Spec.of_vc vcT vcM [.tmp 2, .tmp 3] Tryz.func149 rfl rfl rfl rfl (fun hok => ?_)
  have hs : s.length ≤ big := hok.1
  repeat refine And.intro rfl ?_
  refine And.intro (fun h => ?_) (fun h => ?_)
  · repeat refine And.intro rfl ?_
    refine And.intro (fun h2 => ?_) (fun h2 => ?_)
    · have hlen := num_len h h2
      refine ix_str0 (num_small hlen).1 ?_
      repeat refine And.intro rfl ?_
      refine And.intro (fun h3 => ?_) (fun h3 => ?_)
      · repeat refine And.intro rfl ?_
        refine And.intro (fun h4 => ?_) (fun h4 => ?_)
        · refine td ?_ ?_
          · unfold numD
            rw [numOf_zero hlen h4 h3]
          · rw [numOf_zero hlen h4 h3]; rfl
        · have hgo := numOf_go hlen (.inl h4)
          repeat refine And.intro rfl ?_
          refine ⟨fun m l h => ∃ (i : Nat) (n : Int), m = s.length - i ∧ i ≤ s.length ∧ ((0 ≤ n ∧ n < 10 ^ i) ∧ numOf s = numAcc n (s.drop i)) ∧ l = [(0, .d (.str s)), (4, .d (.int .i64 n)), (25, .d (.int .i64 s.length)), (26, .d (.int .i64 i))] ∧ h = hp0,
            ⟨_, _, _, ⟨0, _, rfl, Nat.zero_le _, ⟨⟨Int.le_refl 0, by decide⟩, hgo⟩, rfl, rfl⟩, rfl, rfl, ⟨rfl, rfl, rfl, rfl, trivial⟩, trivial, trivial⟩, ?_⟩
          rintro m l hh ⟨i, n, rfl, hi, hr, rfl, rfl⟩
          obtain ⟨hn, hr⟩ := hr
          repeat refine And.intro rfl ?_
          refine And.intro (fun h1 => ?_) (fun h1 => ?_)
          · have hlt : i < s.length := lt_str h1
            rw [numAcc_step hlt] at hr
            repeat refine And.intro rfl ?_
            refine ix_str (hlt) ?_
            repeat refine And.intro rfl ?_
            repeat refine And.intro rfl ?_
            refine And.intro (fun h2 => ?_) (fun h2 => ?_)
            · repeat refine And.intro rfl ?_
              refine ix_str (hlt) ?_
              repeat refine And.intro rfl ?_
              repeat refine And.intro rfl ?_
              refine And.intro (fun h3 => ?_) (fun h3 => ?_)
              · refine td ?_ ?_
                · unfold numD
                  rw [hr, h2, h3]; rfl
                · rw [hr, h2, h3]; rfl
              · repeat refine And.intro rfl ?_
                refine ix_str (hlt) ?_
                repeat refine And.intro rfl ?_
                have hi7 : i < 7 := by have := (num_small hlen).2; omega
                obtain ⟨q1, q2⟩ := num_room hn hi7 h2 h3
                repeat refine And.intro rfl ?_
                exact ⟨_, _, _, ⟨i + 1, _, rfl, hlt, ⟨q2, by rw [hr, h2, h3]; rfl⟩, rfl, rfl⟩, by omega, rfl, rfl, ⟨rfl, nd (num_room8 hn hi7 h2 h3), rfl, nd (wrap_succ hlt hs), trivial⟩, trivial, trivial⟩
            · refine td ?_ ?_
              · unfold numD
                rw [hr, h2]; rfl
              · rw [hr, h2]; rfl
          · refine td ?_ ?_
            · unfold numD
              rw [hr, numAcc_end (ge_str h1)]
            · rw [hr, numAcc_end (ge_str h1)]; rfl
      · have hgo := numOf_go hlen (.inr h3)
        repeat refine And.intro rfl ?_
        refine ⟨fun m l h => ∃ (i : Nat) (n : Int), m = s.length - i ∧ i ≤ s.length ∧ ((0 ≤ n ∧ n < 10 ^ i) ∧ numOf s = numAcc n (s.drop i)) ∧ l = [(0, .d (.str s)), (4, .d (.int .i64 n)), (25, .d (.int .i64 s.length)), (26, .d (.int .i64 i))] ∧ h = hp0,
          ⟨_, _, _, ⟨0, _, rfl, Nat.zero_le _, ⟨⟨Int.le_refl 0, by decide⟩, hgo⟩, rfl, rfl⟩, rfl, rfl, ⟨rfl, rfl, rfl, rfl, trivial⟩, trivial, trivial⟩, ?_⟩
        rintro m l hh ⟨i, n, rfl, hi, hr, rfl, rfl⟩
        obtain ⟨hn, hr⟩ := hr
        repeat refine And.intro rfl ?_
        refine And.intro (fun h1 => ?_) (fun h1 => ?_)
        · have hlt : i < s.length := lt_str h1
          rw [numAcc_step hlt] at hr
          repeat refine And.intro rfl ?_
          refine ix_str (hlt) ?_
          repeat refine And.intro rfl ?_
          repeat refine And.intro rfl ?_
          refine And.intro (fun h2 => ?_) (fun h2 => ?_)
          · repeat refine And.intro rfl ?_
            refine ix_str (hlt) ?_
            repeat refine And.intro rfl ?_
            repeat refine And.intro rfl ?_
            refine And.intro (fun h3 => ?_) (fun h3 => ?_)
            · refine td ?_ ?_
              · unfold numD
                rw [hr, h2, h3]; rfl
              · rw [hr, h2, h3]; rfl
            · repeat refine And.intro rfl ?_
              refine ix_str (hlt) ?_
              repeat refine And.intro rfl ?_
              have hi7 : i < 7 := by have := (num_small hlen).2; omega
              obtain ⟨q1, q2⟩ := num_room hn hi7 h2 h3
              repeat refine And.intro rfl ?_
              exact ⟨_, _, _, ⟨i + 1, _, rfl, hlt, ⟨q2, by rw [hr, h2, h3]; rfl⟩, rfl, rfl⟩, by omega, rfl, rfl, ⟨rfl, nd (num_room8 hn hi7 h2 h3), rfl, nd (wrap_succ hlt hs), trivial⟩, trivial, trivial⟩
          · refine td ?_ ?_
            · unfold numD
              rw [hr, h2]; rfl
            · rw [hr, h2]; rfl
        · refine td ?_ ?_
          · unfold numD
            rw [hr, numAcc_end (ge_str h1)]
          · rw [hr, numAcc_end (ge_str h1)]; rfl
    · refine td ?_ ?_
      · unfold numD
        rw [num_len7 h2]
      · rw [num_len7 h2]; rfl
  · refine td ?_ ?_
    · unfold numD
      rw [num_len1 h]
    · rw [num_len1 h]; rfl
theorem i_nFits (f : GateField) (v : Bs) : Spec P 147 [st f.e, .d (.str v)] (.d (.bool (match numOf v with | some n => inR n f.least f.most | none => false))) := by
  refine Spec.of_vc vcT vcM [.tmp 4] Tryz.func147 rfl rfl rfl rfl (fun hok => ?_)
  repeat refine And.intro rfl ?_
  refine Or.inl (Exists.intro _ (And.intro (i_decimal v) ?_))
  cases hq : numOf v with
  | none =>
    repeat refine And.intro rfl ?_
    refine And.intro (fun h => absurd h (by simp)) (fun _ => ?_)
    rfl
  | some n =>
    repeat refine And.intro rfl ?_
    refine And.intro (fun _ => ?_) (fun h => absurd h (by simp))
    have e : numD v = n := by unfold numD; rw [hq]
    repeat' first
      | refine And.intro rfl ?_
      | refine And.intro (fun h => ?_) (fun h => ?_)
    all_goals (rw [e] at *; refine bd ?_; simp only [inR, *, Bool.true_and, Bool.false_and])
theorem i_nSound (f : GateField) (kinds : List Bs) : Spec P 148 [st f.e, .d (lS kinds)] (.d (.bool (sound1 f))) := by
  refine Spec.of_vc vcT vcM [.tmp 4] Tryz.func148 rfl rfl rfl rfl (fun hok => ?_)
  repeat' first
    | refine And.intro rfl ?_
    | refine And.intro (fun h => ?_) (fun h => ?_)
    | refine Or.inl (Exists.intro _ (And.intro (i_isName _) ?_))
  all_goals (refine bd ?_; (try simp only [List.length_map, cond_true, cond_false] at *); simp only [sound1, *, Bool.false_or, Bool.true_or, Bool.or_false, Bool.or_true, Bool.and_true, Bool.true_and, Bool.and_false, Bool.false_and, Bool.not_true, Bool.not_false, Bool.not_not, cond_true, cond_false])
theorem i_nClean (f : GateField) : Spec P 146 [st f.e] (.d (.bool (clean1 f))) := by
  refine Spec.of_vc vcT vcM [.tmp 2] Tryz.func146 rfl rfl rfl rfl (fun hok => ?_)
  repeat' first
    | refine And.intro rfl ?_
    | refine And.intro (fun h => ?_) (fun h => ?_)
  all_goals (refine bd ?_; (try simp only [List.length_map, cond_true, cond_false] at *); simp only [clean1, *, Bool.false_or, Bool.true_or, Bool.or_false, Bool.or_true, Bool.and_true, Bool.true_and, Bool.and_false, Bool.false_and, Bool.not_true, Bool.not_false, Bool.not_not, cond_true, cond_false])
theorem i_wFits (f : GateField) (s : Bs) : Spec P 151 [st f.e, .d (.str s)] (.d (.bool (f.words.any (· == s)))) := by
  refine Spec.of_vc vcT vcM [.tmp 4] Tryz.func151 rfl rfl rfl rfl (fun hok => ?_)
  have hs : f.words.length ≤ big := by
    have := hok.1
    simp only [st, AV.ok, GateField.e, List.map, okAs] at this
    exact len_map this.2.2.2.2.1.1
  repeat refine And.intro rfl ?_
  refine ⟨fun m l h => ∃ (i : Nat) , m = f.words.length - i ∧ i ≤ f.words.length ∧ (f.words.any (· == s) = (f.words.drop i).any (· == s)) ∧ l = [(1, .d (.str s)), (9, .d (lS f.words)), (10, .d (.int .i64 (f.words.map eB).length)), (11, .d (.int .i64 i))] ∧ h = hp0,
    ⟨_, _, _, ⟨0, rfl, Nat.zero_le _, rfl, rfl, rfl⟩, rfl, rfl, ⟨rfl, rfl, rfl, rfl, trivial⟩, trivial, trivial⟩, ?_⟩
  rintro m l hh ⟨i, rfl, hi, hr, rfl, rfl⟩
  repeat refine And.intro rfl ?_
  refine And.intro (fun h1 => ?_) (fun h1 => ?_)
  · have hlt : i < f.words.length := lt_map h1
    repeat refine And.intro rfl ?_
    refine ix_at (e := eB) (xs := f.words) (hlt) rfl ?_
    repeat refine And.intro rfl ?_
    rw [any_step hlt] at hr
    repeat refine And.intro rfl ?_
    refine And.intro (fun h2 => ?_) (fun h2 => ?_)
    · refine bd ?_
      rw [hr, h2]; rfl
    · repeat refine And.intro rfl ?_
      exact ⟨_, _, _, ⟨i + 1, rfl, hlt, by rw [hr, h2]; rfl, rfl, rfl⟩, by omega, rfl, rfl, ⟨rfl, rfl, rfl, nd (wrap_succ hlt hs), trivial⟩, trivial, trivial⟩
  · refine bd ?_
    rw [hr, any_end (ge_map h1)]
theorem i_wSound (f : GateField) (kinds : List Bs) : Spec P 152 [st f.e, .d (lS kinds)] (.d (.bool (sound2 f))) := by
  refine Spec.of_vc vcT vcM [.tmp 4] Tryz.func152 rfl rfl rfl rfl (fun hok => ?_)
  repeat' first
    | refine And.intro rfl ?_
    | refine And.intro (fun h => ?_) (fun h => ?_)
    | refine Or.inl (Exists.intro _ (And.intro (i_ascendingNames _) ?_))
  all_goals (refine bd ?_; (try simp only [List.length_map, cond_true, cond_false] at *); simp only [sound2, inR, *, Bool.false_or, Bool.true_or, Bool.or_false, Bool.or_true, Bool.and_true, Bool.true_and, Bool.and_false, Bool.false_and, Bool.not_true, Bool.not_false, Bool.not_not, cond_true, cond_false])
theorem i_wClean (f : GateField) : Spec P 150 [st f.e] (.d (.bool (clean2 f))) := by
  refine Spec.of_vc vcT vcM [.tmp 2] Tryz.func150 rfl rfl rfl rfl (fun hok => ?_)
  repeat' first
    | refine And.intro rfl ?_
    | refine And.intro (fun h => ?_) (fun h => ?_)
  all_goals (refine bd ?_; (try simp only [List.length_map, cond_true, cond_false] at *); simp only [clean2, *, Bool.false_or, Bool.true_or, Bool.or_false, Bool.or_true, Bool.and_true, Bool.true_and, Bool.and_false, Bool.false_and, Bool.not_true, Bool.not_false, Bool.not_not, cond_true, cond_false])
def txFits (f : GateField) (v : Bs) : Bool := !decide ((v.length : Int) < f.least) && (!decide ((v.length : Int) > f.most) && v.all txByte)
theorem fit3 {f : GateField} {v : Bs} (h1 : (f.kind == 1) = false) (h2 : (f.kind == 2) = false) (h3 : (f.kind == 3) = true) (hv : (!(v == [])) = true) : txFits f v = fitsF f v := by
  simp only [fitsF, txFits, h1, h2, h3, hv, cond_true, cond_false, Bool.true_and, inR]
  have e1 : (!decide ((v.length : Int) < f.least)) = decide ((v.length : Int) ≥ f.least) := by by_cases h : (v.length : Int) < f.least <;> simp [h] <;> omega
  have e2 : (!decide ((v.length : Int) > f.most)) = decide ((v.length : Int) ≤ f.most) := by by_cases h : (v.length : Int) > f.most <;> simp [h] <;> omega
  rw [e1, e2]
  generalize decide ((v.length : Int) ≥ f.least) = a
  generalize decide ((v.length : Int) ≤ f.most) = b
  generalize v.all txByte = c
  cases a <;> cases b <;> cases c <;> rfl
theorem i_tFits (f : GateField) (s : Bs) : Spec P 154 [st f.e, .d (.str s)] (.d (.bool (txFits f s))) := by
  refine Spec.of_vc vcT vcM [.tmp 4] Tryz.func154 rfl rfl rfl rfl (fun hok => ?_)
  have hs : s.length ≤ big := hok.2.1
  repeat refine And.intro rfl ?_
  refine And.intro (fun h => ?_) (fun h => ?_)
  · repeat refine And.intro rfl ?_
    refine And.intro (fun h2 => ?_) (fun h2 => ?_)
    · refine bd ?_
      simp only [txFits, h, h2, Bool.not_true, Bool.not_false, Bool.false_and, Bool.and_false]
    · have e : txFits f s = s.all txByte := by
        simp only [txFits, h, h2, Bool.not_true, Bool.not_false, Bool.true_and]
      rw [e]
      repeat refine And.intro rfl ?_
      refine ⟨fun m l h => ∃ (i : Nat) , m = s.length - i ∧ i ≤ s.length ∧ (s.all txByte = (s.drop i).all txByte) ∧ l = [(1, .d (.str s)), (21, .d (.int .i64 s.length)), (22, .d (.int .i64 i))] ∧ h = hp0,
        ⟨_, _, _, ⟨0, rfl, Nat.zero_le _, rfl, rfl, rfl⟩, rfl, rfl, ⟨rfl, rfl, rfl, trivial⟩, trivial, trivial⟩, ?_⟩
      rintro m l hh ⟨i, rfl, hi, hr, rfl, rfl⟩
      repeat refine And.intro rfl ?_
      refine And.intro (fun h1 => ?_) (fun h1 => ?_)
      · have hlt : i < s.length := lt_str h1
        rw [all_step hlt] at hr
        repeat refine And.intro rfl ?_
        refine ix_str (hlt) ?_
        repeat refine And.intro rfl ?_
        repeat refine And.intro rfl ?_
        refine And.intro (fun h3 => ?_) (fun h3 => ?_)
        · repeat refine And.intro rfl ?_
          refine ix_str (hlt) ?_
          repeat refine And.intro rfl ?_
          repeat refine And.intro rfl ?_
          refine And.intro (fun h4 => ?_) (fun h4 => ?_)
          · refine bd ?_
            rw [hr, show txByte s[i] = false from by have := of_decide_eq_true h4; simp only [txByte, inR, Bool.and_eq_false_iff, decide_eq_false_iff_not]; omega]; rfl
          · repeat refine And.intro rfl ?_
            exact ⟨_, _, _, ⟨i + 1, rfl, hlt, by rw [hr, show txByte s[i] = true from by have := of_decide_eq_false h3; have := of_decide_eq_false h4; simp only [txByte, inR, Bool.and_eq_true, decide_eq_true_eq]; omega]; rfl, rfl, rfl⟩, by omega, rfl, rfl, ⟨rfl, rfl, nd (wrap_succ hlt hs), trivial⟩, trivial, trivial⟩
        · refine bd ?_
          rw [hr, show txByte s[i] = false from by have := of_decide_eq_true h3; simp only [txByte, inR, Bool.and_eq_false_iff, decide_eq_false_iff_not]; omega]; rfl
      · refine bd ?_
        rw [hr, all_end (ge_str h1)]
  · refine bd ?_
    simp only [txFits, h, Bool.not_true, Bool.false_and]
theorem i_tSound (f : GateField) (kinds : List Bs) : Spec P 155 [st f.e, .d (lS kinds)] (.d (.bool (sound3 f))) := by
  refine Spec.of_vc vcT vcM [.tmp 4] Tryz.func155 rfl rfl rfl rfl (fun hok => ?_)
  repeat' first
    | refine And.intro rfl ?_
    | refine And.intro (fun h => ?_) (fun h => ?_)
  all_goals (refine bd ?_; (try simp only [List.length_map, cond_true, cond_false] at *); simp only [sound3, *, Bool.false_or, Bool.true_or, Bool.or_false, Bool.or_true, Bool.and_true, Bool.true_and, Bool.and_false, Bool.false_and, Bool.not_true, Bool.not_false, Bool.not_not, cond_true, cond_false])
theorem i_tClean (f : GateField) : Spec P 153 [st f.e] (.d (.bool (clean3 f))) := by
  refine Spec.of_vc vcT vcM [.tmp 2] Tryz.func153 rfl rfl rfl rfl (fun hok => ?_)
  repeat' first
    | refine And.intro rfl ?_
    | refine And.intro (fun h => ?_) (fun h => ?_)
  all_goals (refine bd ?_; (try simp only [List.length_map, cond_true, cond_false] at *); simp only [clean3, *, Bool.false_or, Bool.true_or, Bool.or_false, Bool.or_true, Bool.and_true, Bool.true_and, Bool.and_false, Bool.false_and, Bool.not_true, Bool.not_false, Bool.not_not, cond_true, cond_false])
theorem i_lFits (f : GateField) (s : Bs) : Spec P 157 [st f.e, .d (.str s)] (.d (.bool (nameOk s))) := by
  refine Spec.of_vc vcT vcM [.tmp 4] Tryz.func157 rfl rfl rfl rfl (fun hok => ?_)
  repeat refine And.intro rfl ?_
  refine Or.inl (Exists.intro _ (And.intro (i_isName _) ?_))
  rfl
theorem i_lSound (f : GateField) (xs : List Bs) : Spec P 158 [st f.e, .d (lS xs)] (.d (.bool (sound4 xs f))) := by
  refine Spec.of_vc vcT vcM [.tmp 4] Tryz.func158 rfl rfl rfl rfl (fun hok => ?_)
  have hs : xs.length ≤ big := len_map hok.2.1.1
  repeat refine And.intro rfl ?_
  refine ⟨fun m l h => ∃ (i : Nat) (b : Bool), m = xs.length - i ∧ i ≤ xs.length ∧ (xs.any (· == f.to_) = (b || (xs.drop i).any (· == f.to_))) ∧ l = [(2, .ptr 0 0), (5, .d (.bool b)), (8, .d (lS xs)), (9, .d (.int .i64 (xs.map eB).length)), (10, .d (.int .i64 i))] ∧ h = ⟨[(0, .cells 169 (f.e.map .d))], 1, 0⟩,
    ⟨_, _, _, ⟨0, _, rfl, Nat.zero_le _, rfl, rfl, rfl⟩, rfl, rfl, ⟨rfl, rfl, rfl, rfl, rfl, trivial⟩, ⟨rfl, trivial⟩, ⟨rfl, trivial⟩⟩, ?_⟩
  rintro m l hh ⟨i, b, rfl, hi, hr, rfl, rfl⟩
  repeat refine And.intro rfl ?_
  refine And.intro (fun h1 => ?_) (fun h1 => ?_)
  · have hlt : i < xs.length := lt_map h1
    rw [any_step hlt] at hr
    repeat refine And.intro rfl ?_
    refine ix_at (e := eB) (xs := xs) (hlt) rfl ?_
    repeat refine And.intro rfl ?_
    repeat refine And.intro rfl ?_
    refine And.intro (fun h2 => ?_) (fun h2 => ?_)
    · repeat refine And.intro rfl ?_
      exact ⟨_, _, _, ⟨i + 1, _, rfl, hlt, by rw [hr, h2]; exact (Bool.or_assoc _ _ _).symm, rfl, rfl⟩, by omega, rfl, rfl, ⟨rfl, rfl, rfl, rfl, nd (wrap_succ hlt hs), trivial⟩, ⟨rfl, trivial⟩, ⟨rfl, trivial⟩⟩
    · repeat refine And.intro rfl ?_
      exact ⟨_, _, _, ⟨i + 1, _, rfl, hlt, by rw [hr, h2]; simp, rfl, rfl⟩, by omega, rfl, rfl, ⟨rfl, rfl, rfl, rfl, nd (wrap_succ hlt hs), trivial⟩, ⟨rfl, trivial⟩, ⟨rfl, trivial⟩⟩
  · rw [any_end (ge_map h1), Bool.or_false] at hr
    repeat' first
      | refine And.intro rfl ?_
      | refine And.intro (fun h => ?_) (fun h => ?_)
    all_goals (refine bd ?_; (try simp only [List.length_map, cond_true, cond_false] at *); simp only [sound4, hr, inR, bne, *, Bool.false_or, Bool.true_or, Bool.or_false, Bool.or_true, Bool.and_true, Bool.true_and, Bool.and_false, Bool.false_and, Bool.not_true, Bool.not_false, Bool.not_not, cond_true, cond_false])
theorem i_lClean (f : GateField) : Spec P 156 [st f.e] (.d (.bool (clean4 f))) := by
  refine Spec.of_vc vcT vcM [.tmp 2] Tryz.func156 rfl rfl rfl rfl (fun hok => ?_)
  repeat' first
    | refine And.intro rfl ?_
    | refine And.intro (fun h => ?_) (fun h => ?_)
  all_goals (refine bd ?_; (try simp only [List.length_map, cond_true, cond_false] at *); simp only [clean4, *, Bool.false_or, Bool.true_or, Bool.or_false, Bool.or_true, Bool.and_true, Bool.true_and, Bool.and_false, Bool.false_and, Bool.not_true, Bool.not_false, Bool.not_not, cond_true, cond_false])
end Go.Vc
