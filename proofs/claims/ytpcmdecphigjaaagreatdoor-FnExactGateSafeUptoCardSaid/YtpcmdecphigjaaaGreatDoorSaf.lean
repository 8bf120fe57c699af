/- Part 6 of a proof: Contracts: the sorts of fields. Contracts: fields that fit, shapes. Contracts: places, fields that are ok. Contracts: shapes. Contracts: lists of shapes. Contract: the reference's GateShapesOk. Contracts: mends. Contracts: teams. Contracts: GateTeamsOk. Contracts: the reference's GateTeamsOk. Contracts: rules, equal texts. -/
import Derived.Test.YtpcmdecphigjaaaGreatDoorSaa
import Derived.Test.YtpcmdecphigjaaaGreatDoorSab
import Derived.Test.YtpcmdecphigjaaaGreatDoorSac
import Derived.Test.YtpcmdecphigjaaaGreatDoorSad
import Derived.Test.YtpcmdecphigjaaaGreatDoorSae
section
namespace Go.Vc
open Go.Proofs
set_option maxRecDepth 100000
set_option pp.maxSteps 400
set_option pp.deepTerms false
set_option linter.unusedSimpArgs false
set_option linter.unusedVariables false
theorem num_len {s : Bs} (h1 : decide ((s.length : Int) < 1) = false) (h2 : decide ((s.length : Int) > 7) = false) : (!inR (s.length : Int) 1 7) = false := by
  have h1 := of_decide_eq_false h1
  have h2 := of_decide_eq_false h2
  simp only [inR, Bool.not_eq_false', Bool.and_eq_true, decide_eq_true_eq]
  omega
theorem num_len1 {s : Bs} (h1 : decide ((s.length : Int) < 1) = true) : numOf s = none := by
  have h1 := of_decide_eq_true h1
  refine numOf_no ?_
  simp only [inR, Bool.not_eq_true', Bool.and_eq_false_iff, decide_eq_false_iff_not]
  omega
theorem num_len7 {s : Bs} (h1 : decide ((s.length : Int) > 7) = true) : numOf s = none := by
  have h1 := of_decide_eq_true h1
  refine numOf_no ?_
  simp only [inR, Bool.not_eq_true', Bool.and_eq_false_iff, decide_eq_false_iff_not]
  omega
theorem num_room8 {n : Int} {i : Nat} {c : UInt8} (hn : 0 ≤ n ∧ n < 10 ^ i) (hi : i < 7) (h1 : decide ((c.toNat : Int) < 48) = false) (h2 : decide ((c.toNat : Int) > 57) = false) :
    IntKind.i64.wrap (IntKind.i64.wrap (n * 10) + IntKind.i64.wrap (IntKind.u8.wrap ((c.toNat : Int) - 48))) = n * 10 + (c.toNat : Int) - 48 := by
  have h1 := of_decide_eq_false h1
  have h2 := of_decide_eq_false h2
  have hle : (10 : Int) ^ i ≤ 10 ^ 6 := by
    have : (10 : Nat) ^ i ≤ 10 ^ 6 := Nat.pow_le_pow_right (by decide) (by omega)
    have h3 : ((10 ^ i : Nat) : Int) ≤ ((10 ^ 6 : Nat) : Int) := Int.ofNat_le.2 this
    simpa using h3
  simp only [IntKind.wrap_i64, IntKind.wrap_u8]
  generalize (10 : Int) ^ i = p at *
  omega
theorem td {a a' : Int} {b b' : Bool} (h : a = a') (h' : b = b') : AV.tup [.d (.int .i64 a), .d (.bool b)] = AV.tup [.d (.int .i64 a'), .d (.bool b')] := by rw [h, h']
theorem i_decimal (s : Bs) : Spec P 205 [.d (.str s)] (.tup [.d (.int .i64 (numD s)), .d (.bool (numOf s).isSome)]) := by
  refine Spec.of_vc vcT vcM [.tmp 2, .tmp 3] Tryz.func205 rfl rfl rfl rfl (fun hok => ?_)
  have hs : s.length ≤ big := hok.1
  repeat refine And.intro rfl ?_
  refine And.intro (fun h => ?_) (fun h => ?_)
  · repeat refine And.intro rfl ?_
    refine And.intro (fun h2 => ?_) (fun h2 => ?_)
    · have hlen := num_len h h2
      refine ix_str0 (num_small hlen).1 ?_
      repeat refine And.intro rfl ?_
      refine And.intro (fun h3 => ?_) (fun h3 => ?_)
      · repeat refine And.intro rfl ?_
        refine And.intro (fun h4 => ?_) (fun h4 => ?_)
        · refine td ?_ ?_
          · unfold numD
            rw [numOf_zero hlen h4 h3]
          · rw [numOf_zero hlen h4 h3]; rfl
        · have hgo := numOf_go hlen (.inl h4)
          repeat refine And.intro rfl ?_
          refine ⟨fun m l h => ∃ (i : Nat) (n : Int), m = s.length - i ∧ i ≤ s.length ∧ ((0 ≤ n ∧ n < 10 ^ i) ∧ numOf s = numAcc n (s.drop i)) ∧ l = [(0, .d (.str s)), (4, .d (.int .i64 n)), (25, .d (.int .i64 s.length)), (26, .d (.int .i64 i))] ∧ h = hp0,
            ⟨_, _, _, ⟨0, _, rfl, Nat.zero_le _, ⟨⟨Int.le_refl 0, by decide⟩, hgo⟩, rfl, rfl⟩, rfl, rfl, ⟨rfl, rfl, rfl, rfl, trivial⟩, trivial, trivial⟩, ?_⟩
          rintro m l hh ⟨i, n, rfl, hi, hr, rfl, rfl⟩
          obtain ⟨hn, hr⟩ := hr
          repeat refine And.intro rfl ?_
          refine And.intro (fun h1 => ?_) (fun h1 => ?_)
          · have hlt : i < s.length := lt_str h1
            rw [numAcc_step hlt] at hr
            repeat refine And.intro rfl ?_
            refine ix_str (hlt) ?_
            repeat refine And.intro rfl ?_
            repeat refine And.intro rfl ?_
            refine And.intro (fun h2 => ?_) (fun h2 => ?_)
            · repeat refine And.intro rfl ?_
              refine ix_str (hlt) ?_
              repeat refine And.intro rfl ?_
              repeat refine And.intro rfl ?_
              refine And.intro (fun h3 => ?_) (fun h3 => ?_)
              · refine td ?_ ?_
                · unfold numD
                  rw [hr, h2, h3]; rfl
                · rw [hr, h2, h3]; rfl
              · repeat refine And.intro rfl ?_
                refine ix_str (hlt) ?_
                repeat refine And.intro rfl ?_
                have hi7 : i < 7 := by have := (num_small hlen).2; omega
                obtain ⟨q1, q2⟩ := num_room hn hi7 h2 h3
                repeat refine And.intro rfl ?_
                exact ⟨_, _, _, ⟨i + 1, _, rfl, hlt, ⟨q2, by rw [hr, h2, h3]; rfl⟩, rfl, rfl⟩, by omega, rfl, rfl, ⟨rfl, nd (num_room8 hn hi7 h2 h3), rfl, nd (wrap_succ hlt hs), trivial⟩, trivial, trivial⟩
            · refine td ?_ ?_
              · unfold numD
                rw [hr, h2]; rfl
              · rw [hr, h2]; rfl
          · refine td ?_ ?_
            · unfold numD
              rw [hr, numAcc_end (ge_str h1)]
            · rw [hr, numAcc_end (ge_str h1)]; rfl
      · have hgo := numOf_go hlen (.inr h3)
        repeat refine And.intro rfl ?_
        refine ⟨fun m l h => ∃ (i : Nat) (n : Int), m = s.length - i ∧ i ≤ s.length ∧ ((0 ≤ n ∧ n < 10 ^ i) ∧ numOf s = numAcc n (s.drop i)) ∧ l = [(0, .d (.str s)), (4, .d (.int .i64 n)), (25, .d (.int .i64 s.length)), (26, .d (.int .i64 i))] ∧ h = hp0,
          ⟨_, _, _, ⟨0, _, rfl, Nat.zero_le _, ⟨⟨Int.le_refl 0, by decide⟩, hgo⟩, rfl, rfl⟩, rfl, rfl, ⟨rfl, rfl, rfl, rfl, trivial⟩, trivial, trivial⟩, ?_⟩
        rintro m l hh ⟨i, n, rfl, hi, hr, rfl, rfl⟩
        obtain ⟨hn, hr⟩ := hr
        repeat refine And.intro rfl ?_
        refine And.intro (fun h1 => ?_) (fun h1 => ?_)
        · have hlt : i < s.length := lt_str h1
          rw [numAcc_step hlt] at hr
          repeat refine And.intro rfl ?_
          refine ix_str (hlt) ?_
          repeat refine And.intro rfl ?_
          repeat refine And.intro rfl ?_
          refine And.intro (fun h2 => ?_) (fun h2 => ?_)
          · repeat refine And.intro rfl ?_
            refine ix_str (hlt) ?_
            repeat refine And.intro rfl ?_
            repeat refine And.intro rfl ?_
            refine And.intro (fun h3 => ?_) (fun h3 => ?_)
            · refine td ?_ ?_
              · unfold numD
                rw [hr, h2, h3]; rfl
              · rw [hr, h2, h3]; rfl
            · repeat refine And.intro rfl ?_
              refine ix_str (hlt) ?_
              repeat refine And.intro rfl ?_
              have hi7 : i < 7 := by have := (num_small hlen).2; omega
              obtain ⟨q1, q2⟩ := num_room hn hi7 h2 h3
              repeat refine And.intro rfl ?_
              exact ⟨_, _, _, ⟨i + 1, _, rfl, hlt, ⟨q2, by rw [hr, h2, h3]; rfl⟩, rfl, rfl⟩, by omega, rfl, rfl, ⟨rfl, nd (num_room8 hn hi7 h2 h3), rfl, nd (wrap_succ hlt hs), trivial⟩, trivial, trivial⟩
          · refine td ?_ ?_
            · unfold numD
              rw [hr, h2]; rfl
            · rw [hr, h2]; rfl
        · refine td ?_ ?_
          · unfold numD
            rw [hr, numAcc_end (ge_str h1)]
          · rw [hr, numAcc_end (ge_str h1)]; rfl
    · refine td ?_ ?_
      · unfold numD
        rw [num_len7 h2]
      · rw [num_len7 h2]; rfl
  · refine td ?_ ?_
    · unfold numD
      rw [num_len1 h]
    · rw [num_len1 h]; rfl
theorem i_nFits (f : GateField) (v : Bs) : Spec P 278 [st f.e, .d (.str v)] (.d (.bool (match numOf v with | some n => inR n f.least f.most | none => false))) := by
  refine Spec.of_vc vcT vcM [.tmp 4] Tryz.func278 rfl rfl rfl rfl (fun hok => ?_)
  repeat refine And.intro rfl ?_
  refine Or.inl (Exists.intro _ (And.intro (i_decimal v) ?_))
  cases hq : numOf v with
  | none =>
    repeat refine And.intro rfl ?_
    refine And.intro (fun h => absurd h (by simp)) (fun _ => ?_)
    rfl
  | some n =>
    repeat refine And.intro rfl ?_
    refine And.intro (fun _ => ?_) (fun h => absurd h (by simp))
    have e : numD v = n := by unfold numD; rw [hq]
    repeat' first
      | refine And.intro rfl ?_
      | refine And.intro (fun h => ?_) (fun h => ?_)
    all_goals (rw [e] at *; refine bd ?_; simp only [inR, *, Bool.true_and, Bool.false_and])
theorem i_nSound (f : GateField) (kinds : List Bs) : Spec P 279 [st f.e, .d (lS kinds)] (.d (.bool (sound1 f))) := by
  refine Spec.of_vc vcT vcM [.tmp 4] Tryz.func279 rfl rfl rfl rfl (fun hok => ?_)
  repeat' first
    | refine And.intro rfl ?_
    | refine And.intro (fun h => ?_) (fun h => ?_)
    | refine Or.inl (Exists.intro _ (And.intro (i_isName _) ?_))
  all_goals (refine bd ?_; (try simp only [List.length_map, cond_true, cond_false] at *); simp only [sound1, *, Bool.false_or, Bool.true_or, Bool.or_false, Bool.or_true, Bool.and_true, Bool.true_and, Bool.and_false, Bool.false_and, Bool.not_true, Bool.not_false, Bool.not_not, cond_true, cond_false])
theorem i_nClean (f : GateField) : Spec P 277 [st f.e] (.d (.bool (clean1 f))) := by
  refine Spec.of_vc vcT vcM [.tmp 2] Tryz.func277 rfl rfl rfl rfl (fun hok => ?_)
  repeat' first
    | refine And.intro rfl ?_
    | refine And.intro (fun h => ?_) (fun h => ?_)
  all_goals (refine bd ?_; (try simp only [List.length_map, cond_true, cond_false] at *); simp only [clean1, *, Bool.false_or, Bool.true_or, Bool.or_false, Bool.or_true, Bool.and_true, Bool.true_and, Bool.and_false, Bool.false_and, Bool.not_true, Bool.not_false, Bool.not_not, cond_true, cond_false])
theorem i_wFits (f : GateField) (s : Bs) : Spec P 281 [st f.e, .d (.str s)] (.d (.bool (f.words.any (· == s)))) := by
  refine Spec.of_vc vcT vcM [.tmp 4] Tryz.func281 rfl rfl rfl rfl (fun hok => ?_)
  have hs : f.words.length ≤ big := by
    have := hok.1
    simp only [st, AV.ok, GateField.e, List.map, okAs] at this
    exact len_map this.2.2.2.2.1.1
  repeat refine And.intro rfl ?_
  refine ⟨fun m l h => ∃ (i : Nat) , m = f.words.length - i ∧ i ≤ f.words.length ∧ (f.words.any (· == s) = (f.words.drop i).any (· == s)) ∧ l = [(1, .d (.str s)), (9, .d (lS f.words)), (10, .d (.int .i64 (f.words.map eB).length)), (11, .d (.int .i64 i))] ∧ h = hp0,
    ⟨_, _, _, ⟨0, rfl, Nat.zero_le _, rfl, rfl, rfl⟩, rfl, rfl, ⟨rfl, rfl, rfl, rfl, trivial⟩, trivial, trivial⟩, ?_⟩
  rintro m l hh ⟨i, rfl, hi, hr, rfl, rfl⟩
  repeat refine And.intro rfl ?_
  refine And.intro (fun h1 => ?_) (fun h1 => ?_)
  · have hlt : i < f.words.length := lt_map h1
    repeat refine And.intro rfl ?_
    refine ix_at (e := eB) (xs := f.words) (hlt) rfl ?_
    repeat refine And.intro rfl ?_
    rw [any_step hlt] at hr
    repeat refine And.intro rfl ?_
    refine And.intro (fun h2 => ?_) (fun h2 => ?_)
    · refine bd ?_
      rw [hr, h2]; rfl
    · repeat refine And.intro rfl ?_
      exact ⟨_, _, _, ⟨i + 1, rfl, hlt, by rw [hr, h2]; rfl, rfl, rfl⟩, by omega, rfl, rfl, ⟨rfl, rfl, rfl, nd (wrap_succ hlt hs), trivial⟩, trivial, trivial⟩
  · refine bd ?_
    rw [hr, any_end (ge_map h1)]
theorem i_wSound (f : GateField) (kinds : List Bs) : Spec P 282 [st f.e, .d (lS kinds)] (.d (.bool (sound2 f))) := by
  refine Spec.of_vc vcT vcM [.tmp 4] Tryz.func282 rfl rfl rfl rfl (fun hok => ?_)
  repeat' first
    | refine And.intro rfl ?_
    | refine And.intro (fun h => ?_) (fun h => ?_)
    | refine Or.inl (Exists.intro _ (And.intro (i_ascendingNames _) ?_))
  all_goals (refine bd ?_; (try simp only [List.length_map, cond_true, cond_false] at *); simp only [sound2, inR, *, Bool.false_or, Bool.true_or, Bool.or_false, Bool.or_true, Bool.and_true, Bool.true_and, Bool.and_false, Bool.false_and, Bool.not_true, Bool.not_false, Bool.not_not, cond_true, cond_false])
theorem i_wClean (f : GateField) : Spec P 280 [st f.e] (.d (.bool (clean2 f))) := by
  refine Spec.of_vc vcT vcM [.tmp 2] Tryz.func280 rfl rfl rfl rfl (fun hok => ?_)
  repeat' first
    | refine And.intro rfl ?_
    | refine And.intro (fun h => ?_) (fun h => ?_)
  all_goals (refine bd ?_; (try simp only [List.length_map, cond_true, cond_false] at *); simp only [clean2, *, Bool.false_or, Bool.true_or, Bool.or_false, Bool.or_true, Bool.and_true, Bool.true_and, Bool.and_false, Bool.false_and, Bool.not_true, Bool.not_false, Bool.not_not, cond_true, cond_false])
def txFits (f : GateField) (v : Bs) : Bool := !decide ((v.length : Int) < f.least) && (!decide ((v.length : Int) > f.most) && v.all txByte)
theorem fit3 {f : GateField} {v : Bs} (h1 : (f.kind == 1) = false) (h2 : (f.kind == 2) = false) (h3 : (f.kind == 3) = true) (hv : (!(v == [])) = true) : txFits f v = fitsF f v := by
  simp only [fitsF, txFits, h1, h2, h3, hv, cond_true, cond_false, Bool.true_and, inR]
  have e1 : (!decide ((v.length : Int) < f.least)) = decide ((v.length : Int) ≥ f.least) := by by_cases h : (v.length : Int) < f.least <;> simp [h] <;> omega
  have e2 : (!decide ((v.length : Int) > f.most)) = decide ((v.length : Int) ≤ f.most) := by by_cases h : (v.length : Int) > f.most <;> simp [h] <;> omega
  rw [e1, e2]
  generalize decide ((v.length : Int) ≥ f.least) = a
  generalize decide ((v.length : Int) ≤ f.most) = b
  generalize v.all txByte = c
  cases a <;> cases b <;> cases c <;> rfl
theorem i_tFits (f : GateField) (s : Bs) : Spec P 284 [st f.e, .d (.str s)] (.d (.bool (txFits f s))) := by
  refine Spec.of_vc vcT vcM [.tmp 4] Tryz.func284 rfl rfl rfl rfl (fun hok => ?_)
  have hs : s.length ≤ big := hok.2.1
  repeat refine And.intro rfl ?_
  refine And.intro (fun h => ?_) (fun h => ?_)
  · repeat refine And.intro rfl ?_
    refine And.intro (fun h2 => ?_) (fun h2 => ?_)
    · refine bd ?_
      simp only [txFits, h, h2, Bool.not_true, Bool.not_false, Bool.false_and, Bool.and_false]
    · have e : txFits f s = s.all txByte := by
        simp only [txFits, h, h2, Bool.not_true, Bool.not_false, Bool.true_and]
      rw [e]
      repeat refine And.intro rfl ?_
      refine ⟨fun m l h => ∃ (i : Nat) , m = s.length - i ∧ i ≤ s.length ∧ (s.all txByte = (s.drop i).all txByte) ∧ l = [(1, .d (.str s)), (21, .d (.int .i64 s.length)), (22, .d (.int .i64 i))] ∧ h = hp0,
        ⟨_, _, _, ⟨0, rfl, Nat.zero_le _, rfl, rfl, rfl⟩, rfl, rfl, ⟨rfl, rfl, rfl, trivial⟩, trivial, trivial⟩, ?_⟩
      rintro m l hh ⟨i, rfl, hi, hr, rfl, rfl⟩
      repeat refine And.intro rfl ?_
      refine And.intro (fun h1 => ?_) (fun h1 => ?_)
      · have hlt : i < s.length := lt_str h1
        rw [all_step hlt] at hr
        repeat refine And.intro rfl ?_
        refine ix_str (hlt) ?_
        repeat refine And.intro rfl ?_
        repeat refine And.intro rfl ?_
        refine And.intro (fun h3 => ?_) (fun h3 => ?_)
        · repeat refine And.intro rfl ?_
          refine ix_str (hlt) ?_
          repeat refine And.intro rfl ?_
          repeat refine And.intro rfl ?_
          refine And.intro (fun h4 => ?_) (fun h4 => ?_)
          · refine bd ?_
            rw [hr, show txByte s[i] = false from by have := of_decide_eq_true h4; simp only [txByte, inR, Bool.and_eq_false_iff, decide_eq_false_iff_not]; omega]; rfl
          · repeat refine And.intro rfl ?_
            exact ⟨_, _, _, ⟨i + 1, rfl, hlt, by rw [hr, show txByte s[i] = true from by have := of_decide_eq_false h3; have := of_decide_eq_false h4; simp only [txByte, inR, Bool.and_eq_true, decide_eq_true_eq]; omega]; rfl, rfl, rfl⟩, by omega, rfl, rfl, ⟨rfl, rfl, nd (wrap_succ hlt hs), trivial⟩, trivial, trivial⟩
        · refine bd ?_
          rw [hr, show txByte s[i] = false from by have := of_decide_eq_true h3; simp only [txByte, inR, Bool.and_eq_false_iff, decide_eq_false_iff_not]; omega]; rfl
      · refine bd ?_
        rw [hr, all_end (ge_str h1)]
  · refine bd ?_
    simp only [txFits, h, Bool.not_true, Bool.false_and]
theorem i_tSound (f : GateField) (kinds : List Bs) : Spec P 285 [st f.e, .d (lS kinds)] (.d (.bool (sound3 f))) := by
  refine Spec.of_vc vcT vcM [.tmp 4] Tryz.func285 rfl rfl rfl rfl (fun hok => ?_)
  repeat' first
    | refine And.intro rfl ?_
    | refine And.intro (fun h => ?_) (fun h => ?_)
  all_goals (refine bd ?_; (try simp only [List.length_map, cond_true, cond_false] at *); simp only [sound3, *, Bool.false_or, Bool.true_or, Bool.or_false, Bool.or_true, Bool.and_true, Bool.true_and, Bool.and_false, Bool.false_and, Bool.not_true, Bool.not_false, Bool.not_not, cond_true, cond_false])
theorem i_tClean (f : GateField) : Spec P 283 [st f.e] (.d (.bool (clean3 f))) := by
  refine Spec.of_vc vcT vcM [.tmp 2] Tryz.func283 rfl rfl rfl rfl (fun hok => ?_)
  repeat' first
    | refine And.intro rfl ?_
    | refine And.intro (fun h => ?_) (fun h => ?_)
  all_goals (refine bd ?_; (try simp only [List.length_map, cond_true, cond_false] at *); simp only [clean3, *, Bool.false_or, Bool.true_or, Bool.or_false, Bool.or_true, Bool.and_true, Bool.true_and, Bool.and_false, Bool.false_and, Bool.not_true, Bool.not_false, Bool.not_not, cond_true, cond_false])
theorem i_lFits (f : GateField) (s : Bs) : Spec P 287 [st f.e, .d (.str s)] (.d (.bool (nameOk s))) := by
  refine Spec.of_vc vcT vcM [.tmp 4] Tryz.func287 rfl rfl rfl rfl (fun hok => ?_)
  repeat refine And.intro rfl ?_
  refine Or.inl (Exists.intro _ (And.intro (i_isName _) ?_))
  rfl
theorem i_lSound (f : GateField) (xs : List Bs) : Spec P 288 [st f.e, .d (lS xs)] (.d (.bool (sound4 xs f))) := by
  refine Spec.of_vc vcT vcM [.tmp 4] Tryz.func288 rfl rfl rfl rfl (fun hok => ?_)
  have hs : xs.length ≤ big := len_map hok.2.1.1
  repeat refine And.intro rfl ?_
  refine ⟨fun m l h => ∃ (i : Nat) (b : Bool), m = xs.length - i ∧ i ≤ xs.length ∧ (xs.any (· == f.to_) = (b || (xs.drop i).any (· == f.to_))) ∧ l = [(2, .ptr 0 0), (5, .d (.bool b)), (8, .d (lS xs)), (9, .d (.int .i64 (xs.map eB).length)), (10, .d (.int .i64 i))] ∧ h = ⟨[(0, .cells 322 (f.e.map .d))], 1, 0⟩,
    ⟨_, _, _, ⟨0, _, rfl, Nat.zero_le _, rfl, rfl, rfl⟩, rfl, rfl, ⟨rfl, rfl, rfl, rfl, rfl, trivial⟩, ⟨rfl, trivial⟩, ⟨rfl, trivial⟩⟩, ?_⟩
  rintro m l hh ⟨i, b, rfl, hi, hr, rfl, rfl⟩
  repeat refine And.intro rfl ?_
  refine And.intro (fun h1 => ?_) (fun h1 => ?_)
  · have hlt : i < xs.length := lt_map h1
    rw [any_step hlt] at hr
    repeat refine And.intro rfl ?_
    refine ix_at (e := eB) (xs := xs) (hlt) rfl ?_
    repeat refine And.intro rfl ?_
    repeat refine And.intro rfl ?_
    refine And.intro (fun h2 => ?_) (fun h2 => ?_)
    · repeat refine And.intro rfl ?_
      exact ⟨_, _, _, ⟨i + 1, _, rfl, hlt, by rw [hr, h2]; exact (Bool.or_assoc _ _ _).symm, rfl, rfl⟩, by omega, rfl, rfl, ⟨rfl, rfl, rfl, rfl, nd (wrap_succ hlt hs), trivial⟩, ⟨rfl, trivial⟩, ⟨rfl, trivial⟩⟩
    · repeat refine And.intro rfl ?_
      exact ⟨_, _, _, ⟨i + 1, _, rfl, hlt, by rw [hr, h2]; simp, rfl, rfl⟩, by omega, rfl, rfl, ⟨rfl, rfl, rfl, rfl, nd (wrap_succ hlt hs), trivial⟩, ⟨rfl, trivial⟩, ⟨rfl, trivial⟩⟩
  · rw [any_end (ge_map h1), Bool.or_false] at hr
    repeat' first
      | refine And.intro rfl ?_
      | refine And.intro (fun h => ?_) (fun h => ?_)
    all_goals (refine bd ?_; (try simp only [List.length_map, cond_true, cond_false] at *); simp only [sound4, hr, inR, bne, *, Bool.false_or, Bool.true_or, Bool.or_false, Bool.or_true, Bool.and_true, Bool.true_and, Bool.and_false, Bool.false_and, Bool.not_true, Bool.not_false, Bool.not_not, cond_true, cond_false])
theorem i_lClean (f : GateField) : Spec P 286 [st f.e] (.d (.bool (clean4 f))) := by
  refine Spec.of_vc vcT vcM [.tmp 2] Tryz.func286 rfl rfl rfl rfl (fun hok => ?_)
  repeat' first
    | refine And.intro rfl ?_
    | refine And.intro (fun h => ?_) (fun h => ?_)
  all_goals (refine bd ?_; (try simp only [List.length_map, cond_true, cond_false] at *); simp only [clean4, *, Bool.false_or, Bool.true_or, Bool.or_false, Bool.or_true, Bool.and_true, Bool.true_and, Bool.and_false, Bool.false_and, Bool.not_true, Bool.not_false, Bool.not_not, cond_true, cond_false])
end Go.Vc
end

section
namespace Go.Vc
open Go.Proofs
set_option maxRecDepth 100000
set_option pp.maxSteps 400
set_option pp.deepTerms false
set_option linter.unusedSimpArgs false
set_option linter.unusedVariables false
theorem i_mk1 (f : GateField) : Spec P 223 [st f.e] (.iface 318 (st f.e)) := by
  refine Spec.of_vc vcT vcM [.tmp 2] Tryz.func223 rfl rfl rfl rfl (fun hok => ?_)
  rfl
theorem i_mk2 (f : GateField) : Spec P 224 [st f.e] (.iface 320 (st f.e)) := by
  refine Spec.of_vc vcT vcM [.tmp 2] Tryz.func224 rfl rfl rfl rfl (fun hok => ?_)
  rfl
theorem i_mk3 (f : GateField) : Spec P 225 [st f.e] (.iface 321 (st f.e)) := by
  refine Spec.of_vc vcT vcM [.tmp 2] Tryz.func225 rfl rfl rfl rfl (fun hok => ?_)
  rfl
theorem i_mk4 (f : GateField) : Spec P 226 [st f.e] (.iface 322 (st f.e)) := by
  refine Spec.of_vc vcT vcM [.tmp 2] Tryz.func226 rfl rfl rfl rfl (fun hok => ?_)
  rfl
theorem i_sortOf1 (f : GateField) (h : f.kind = 1) : Spec P 214 [st f.e] (.tup [.iface 318 (st f.e), .d (.bool true)]) := by
  refine Spec.of_vc vcT vcM [.tmp 2, .tmp 3] Tryz.func214 rfl rfl rfl rfl (fun hok => ?_)
  repeat refine And.intro rfl ?_
  refine ⟨_, (by rw [h]), ?_⟩
  repeat refine And.intro rfl ?_
  refine Or.inl (Exists.intro _ (And.intro (i_mk1 f) ?_))
  rfl
theorem i_sortOf2 (f : GateField) (h : f.kind = 2) : Spec P 214 [st f.e] (.tup [.iface 320 (st f.e), .d (.bool true)]) := by
  refine Spec.of_vc vcT vcM [.tmp 2, .tmp 3] Tryz.func214 rfl rfl rfl rfl (fun hok => ?_)
  repeat refine And.intro rfl ?_
  refine ⟨_, (by rw [h]), ?_⟩
  repeat refine And.intro rfl ?_
  refine Or.inl (Exists.intro _ (And.intro (i_mk2 f) ?_))
  rfl
theorem i_sortOf3 (f : GateField) (h : f.kind = 3) : Spec P 214 [st f.e] (.tup [.iface 321 (st f.e), .d (.bool true)]) := by
  refine Spec.of_vc vcT vcM [.tmp 2, .tmp 3] Tryz.func214 rfl rfl rfl rfl (fun hok => ?_)
  repeat refine And.intro rfl ?_
  refine ⟨_, (by rw [h]), ?_⟩
  repeat refine And.intro rfl ?_
  refine Or.inl (Exists.intro _ (And.intro (i_mk3 f) ?_))
  rfl
theorem i_sortOf4 (f : GateField) (h : f.kind = 4) : Spec P 214 [st f.e] (.tup [.iface 322 (st f.e), .d (.bool true)]) := by
  refine Spec.of_vc vcT vcM [.tmp 2, .tmp 3] Tryz.func214 rfl rfl rfl rfl (fun hok => ?_)
  repeat refine And.intro rfl ?_
  refine ⟨_, (by rw [h]), ?_⟩
  repeat refine And.intro rfl ?_
  refine Or.inl (Exists.intro _ (And.intro (i_mk4 f) ?_))
  rfl
theorem sort_none {k : Int} {a b c d : AV} (h1 : (k == 1) = false) (h2 : (k == 2) = false) (h3 : (k == 3) = false) (h4 : (k == 4) = false) :
    mapLook [([D.int .i64 1], a), ([D.int .i64 2], b), ([D.int .i64 3], c), ([D.int .i64 4], d)] [D.int .i64 k] = none := by
  have e : ∀ j : Int, (k == j) = (j == k) := fun j => by rw [Bool.eq_iff_iff, beq_iff_eq, beq_iff_eq]; exact eq_comm
  rw [e] at h1 h2 h3 h4
  simp only [mapLook, keyEq, kindEq, e, h1, h2, h3, h4, Bool.and_false]
theorem i_sortOf0 (f : GateField) (h1 : (f.kind == 1) = false) (h2 : (f.kind == 2) = false) (h3 : (f.kind == 3) = false) (h4 : (f.kind == 4) = false) : Spec P 214 [st f.e] (.tup [.val .nilIface, .d (.bool false)]) := by
  refine Spec.of_vc vcT vcM [.tmp 2, .tmp 3] Tryz.func214 rfl rfl rfl rfl (fun hok => ?_)
  repeat refine And.intro rfl ?_
  refine ⟨_, sort_none h1 h2 h3 h4, ?_⟩
  rfl
theorem kind_is {k : Int} (j : Int) (h : (k == j) = true) : k = j := by simpa using h
theorem i_GateFits (f : GateField) (v : Bs) : Spec P 199 [st f.e, .d (.str v)] (.d (.bool (fitsF f v))) := by
  refine Spec.of_vc vcT vcM [.tmp 4] Tryz.func199 rfl rfl rfl rfl (fun hok => ?_)
  cases h1 : f.kind == 1
  · cases h2 : f.kind == 2
    · cases h3 : f.kind == 3
      · cases h4 : f.kind == 4
        · repeat refine And.intro rfl ?_
          refine Or.inl (Exists.intro _ (And.intro (i_sortOf0 f h1 h2 h3 h4) ?_))
          repeat refine And.intro rfl ?_
          refine And.intro (fun h => absurd h (by simp)) (fun _ => ?_)
          refine bd ?_
          simp only [fitsF, h1, h2, h3, h4, cond_false]
        · repeat refine And.intro rfl ?_
          refine Or.inl (Exists.intro _ (And.intro (i_sortOf4 f (kind_is 4 h4)) ?_))
          repeat refine And.intro rfl ?_
          refine And.intro (fun _ => ?_) (fun h => absurd h (by simp))
          repeat refine And.intro rfl ?_
          refine And.intro (fun hv => ?_) (fun hv => ?_)
          · repeat refine And.intro rfl ?_
            refine Or.inl (Exists.intro _ (And.intro (i_lFits f v) ?_))
            refine bd ?_
            simp only [fitsF, h1, h2, h3, h4, cond_true, cond_false]
          · refine bd ?_
            have hv' : v = [] := by simpa using hv
            subst hv'
            simp only [fitsF, h1, h2, h3, h4, cond_true, cond_false];try rfl
      · repeat refine And.intro rfl ?_
        refine Or.inl (Exists.intro _ (And.intro (i_sortOf3 f (kind_is 3 h3)) ?_))
        repeat refine And.intro rfl ?_
        refine And.intro (fun _ => ?_) (fun h => absurd h (by simp))
        repeat refine And.intro rfl ?_
        refine And.intro (fun hv => ?_) (fun hv => ?_)
        · repeat refine And.intro rfl ?_
          refine Or.inl (Exists.intro _ (And.intro (i_tFits f v) ?_))
          refine bd ?_
          exact fit3 h1 h2 h3 hv
        · refine bd ?_
          have hv' : v = [] := by simpa using hv
          subst hv'
          simp only [fitsF, h1, h2, h3, cond_true, cond_false];try rfl
    · repeat refine And.intro rfl ?_
      refine Or.inl (Exists.intro _ (And.intro (i_sortOf2 f (kind_is 2 h2)) ?_))
      repeat refine And.intro rfl ?_
      refine And.intro (fun _ => ?_) (fun h => absurd h (by simp))
      repeat refine And.intro rfl ?_
      refine And.intro (fun hv => ?_) (fun hv => ?_)
      · repeat refine And.intro rfl ?_
        refine Or.inl (Exists.intro _ (And.intro (i_wFits f v) ?_))
        refine bd ?_
        simp only [fitsF, h1, h2, hv, cond_true, cond_false, Bool.true_and]
      · refine bd ?_
        have hv' : v = [] := by simpa using hv
        subst hv'
        simp only [fitsF, h1, h2, cond_true, cond_false];try rfl
  · repeat refine And.intro rfl ?_
    refine Or.inl (Exists.intro _ (And.intro (i_sortOf1 f (kind_is 1 h1)) ?_))
    repeat refine And.intro rfl ?_
    refine And.intro (fun _ => ?_) (fun h => absurd h (by simp))
    repeat refine And.intro rfl ?_
    refine And.intro (fun hv => ?_) (fun hv => ?_)
    · repeat refine And.intro rfl ?_
      refine Or.inl (Exists.intro _ (And.intro (i_nFits f v) ?_))
      refine bd ?_
      simp only [fitsF, h1, cond_true];try rfl
    · refine bd ?_
      have hv' : v = [] := by simpa using hv
      subst hv'
      simp only [fitsF, h1, cond_true];try rfl
end Go.Vc
end

section
namespace Go.Vc
open Go.Proofs
set_option maxRecDepth 100000
set_option pp.maxSteps 400
set_option pp.deepTerms false
set_option linter.unusedSimpArgs false
set_option linter.unusedVariables false
theorem s_l1Shape (xs : List GateShape) (s : Bs) : Spec P 156 [.d (lGateShape xs), .d (.str s)] (.d (.int .i64 (idx (·.kind == s) xs))) := by
  refine Spec.of_vc vcT vcM [.tmp 4] Tryz.func156 rfl rfl rfl rfl (fun hok => ?_)
  have hs : xs.length ≤ big := len_map hok.1.1
  repeat refine And.intro rfl ?_
  refine ⟨fun m l h => ∃ (i : Nat) , m = xs.length - i ∧ i ≤ xs.length ∧ (idx (·.kind == s) xs = idxBy (·.kind == s) (xs.drop i) i) ∧ l = [(0, .d (lGateShape xs)), (1, .d (.str s)), (5, .d (.int .i64 i))] ∧ h = hp0,
    ⟨_, _, _, ⟨0, rfl, Nat.zero_le _, rfl, rfl, rfl⟩, rfl, rfl, ⟨rfl, rfl, rfl, trivial⟩, trivial, trivial⟩, ?_⟩
  rintro m l hh ⟨i, rfl, hi, hr, rfl, rfl⟩
  repeat refine And.intro rfl ?_
  refine And.intro (fun h1 => ?_) (fun h1 => ?_)
  · have hlt : i < xs.length := lt_map h1
    repeat refine And.intro rfl ?_
    refine ix_at (e := GateShape.e) (xs := xs) (hlt) rfl ?_
    repeat refine And.intro rfl ?_
    rw [idxBy_step hlt] at hr
    repeat refine And.intro rfl ?_
    refine And.intro (fun h2 => ?_) (fun h2 => ?_)
    · refine nd ?_
      rw [hr, h2]; rfl
    · repeat refine And.intro rfl ?_
      exact ⟨_, _, _, ⟨i + 1, rfl, hlt, by rw [hr, h2]; rfl, rfl, rfl⟩, by omega, rfl, rfl, ⟨rfl, rfl, nd (wrap_succ hlt hs), trivial⟩, trivial, trivial⟩
  · refine nd ?_
    rw [hr, idxBy_end (ge_map h1)]
theorem i_shapeOf (xs : List GateShape) (s : Bs) : Spec P 161 [.d (lGateShape xs), .d (.str s)] (.d (.int .i64 (idx (·.kind == s) xs))) := by
  refine Spec.of_vc vcT vcM [.tmp 4] Tryz.func161 rfl rfl rfl rfl (fun hok => ?_)
  have hs : xs.length ≤ big := len_map hok.1.1
  repeat refine And.intro rfl ?_
  refine ⟨fun m l h => ∃ (i : Nat) , m = xs.length - i ∧ i ≤ xs.length ∧ (idx (·.kind == s) xs = idxBy (·.kind == s) (xs.drop i) i) ∧ l = [(0, .d (lGateShape xs)), (1, .d (.str s)), (7, .d (lGateShape xs)), (8, .d (.int .i64 (xs.map GateShape.e).length)), (9, .d (.int .i64 i))] ∧ h = hp0,
    ⟨_, _, _, ⟨0, rfl, Nat.zero_le _, rfl, rfl, rfl⟩, rfl, rfl, ⟨rfl, rfl, rfl, rfl, rfl, trivial⟩, trivial, trivial⟩, ?_⟩
  rintro m l hh ⟨i, rfl, hi, hr, rfl, rfl⟩
  repeat refine And.intro rfl ?_
  refine And.intro (fun h1 => ?_) (fun h1 => ?_)
  · have hlt : i < xs.length := lt_map h1
    repeat refine And.intro rfl ?_
    refine ix_at (e := GateShape.e) (xs := xs) (hlt) rfl ?_
    repeat refine And.intro rfl ?_
    rw [idxBy_step hlt] at hr
    repeat refine And.intro rfl ?_
    refine And.intro (fun h2 => ?_) (fun h2 => ?_)
    · refine nd ?_
      rw [hr, h2]; rfl
    · repeat refine And.intro rfl ?_
      exact ⟨_, _, _, ⟨i + 1, rfl, hlt, by rw [hr, h2]; rfl, rfl, rfl⟩, by omega, rfl, rfl, ⟨rfl, rfl, rfl, rfl, nd (wrap_succ hlt hs), trivial⟩, trivial, trivial⟩
  · refine nd ?_
    rw [hr, idxBy_end (ge_map h1)]
theorem i_placeOf (xs : List GateField) (s : Bs) : Spec P 198 [.d (lGateField xs), .d (.str s)] (.d (.int .i64 (idx (·.name == s) xs))) := by
  refine Spec.of_vc vcT vcM [.tmp 4] Tryz.func198 rfl rfl rfl rfl (fun hok => ?_)
  have hs : xs.length ≤ big := len_map hok.1.1
  repeat refine And.intro rfl ?_
  refine ⟨fun m l h => ∃ (i : Nat) , m = xs.length - i ∧ i ≤ xs.length ∧ (idx (·.name == s) xs = idxBy (·.name == s) (xs.drop i) i) ∧ l = [(0, .d (lGateField xs)), (1, .d (.str s)), (7, .d (lGateField xs)), (8, .d (.int .i64 (xs.map GateField.e).length)), (9, .d (.int .i64 i))] ∧ h = hp0,
    ⟨_, _, _, ⟨0, rfl, Nat.zero_le _, rfl, rfl, rfl⟩, rfl, rfl, ⟨rfl, rfl, rfl, rfl, rfl, trivial⟩, trivial, trivial⟩, ?_⟩
  rintro m l hh ⟨i, rfl, hi, hr, rfl, rfl⟩
  repeat refine And.intro rfl ?_
  refine And.intro (fun h1 => ?_) (fun h1 => ?_)
  · have hlt : i < xs.length := lt_map h1
    repeat refine And.intro rfl ?_
    refine ix_at (e := GateField.e) (xs := xs) (hlt) rfl ?_
    repeat refine And.intro rfl ?_
    rw [idxBy_step hlt] at hr
    repeat refine And.intro rfl ?_
    refine And.intro (fun h2 => ?_) (fun h2 => ?_)
    · refine nd ?_
      rw [hr, h2]; rfl
    · repeat refine And.intro rfl ?_
      exact ⟨_, _, _, ⟨i + 1, rfl, hlt, by rw [hr, h2]; rfl, rfl, rfl⟩, by omega, rfl, rfl, ⟨rfl, rfl, rfl, rfl, nd (wrap_succ hlt hs), trivial⟩, trivial, trivial⟩
  · refine nd ?_
    rw [hr, idxBy_end (ge_map h1)]
theorem i_teamOf (xs : List GateTeam) (s : Bs) : Spec P 124 [.d (lGateTeam xs), .d (.str s)] (.d (.int .i64 (idx (·.name == s) xs))) := by
  refine Spec.of_vc vcT vcM [.tmp 4] Tryz.func124 rfl rfl rfl rfl (fun hok => ?_)
  have hs : xs.length ≤ big := len_map hok.1.1
  repeat refine And.intro rfl ?_
  refine ⟨fun m l h => ∃ (i : Nat) , m = xs.length - i ∧ i ≤ xs.length ∧ (idx (·.name == s) xs = idxBy (·.name == s) (xs.drop i) i) ∧ l = [(0, .d (lGateTeam xs)), (1, .d (.str s)), (7, .d (lGateTeam xs)), (8, .d (.int .i64 (xs.map GateTeam.e).length)), (9, .d (.int .i64 i))] ∧ h = hp0,
    ⟨_, _, _, ⟨0, rfl, Nat.zero_le _, rfl, rfl, rfl⟩, rfl, rfl, ⟨rfl, rfl, rfl, rfl, rfl, trivial⟩, trivial, trivial⟩, ?_⟩
  rintro m l hh ⟨i, rfl, hi, hr, rfl, rfl⟩
  repeat refine And.intro rfl ?_
  refine And.intro (fun h1 => ?_) (fun h1 => ?_)
  · have hlt : i < xs.length := lt_map h1
    repeat refine And.intro rfl ?_
    refine ix_at (e := GateTeam.e) (xs := xs) (hlt) rfl ?_
    repeat refine And.intro rfl ?_
    rw [idxBy_step hlt] at hr
    repeat refine And.intro rfl ?_
    refine And.intro (fun h2 => ?_) (fun h2 => ?_)
    · refine nd ?_
      rw [hr, h2]; rfl
    · repeat refine And.intro rfl ?_
      exact ⟨_, _, _, ⟨i + 1, rfl, hlt, by rw [hr, h2]; rfl, rfl, rfl⟩, by omega, rfl, rfl, ⟨rfl, rfl, rfl, rfl, nd (wrap_succ hlt hs), trivial⟩, trivial, trivial⟩
  · refine nd ?_
    rw [hr, idxBy_end (ge_map h1)]
theorem s_l3Field (xs : List GateField) (s : Bs) : Spec P 189 [.d (lGateField xs), .d (.str s)] (.d (.int .i64 (idx (·.name == s) xs))) := by
  refine Spec.of_vc vcT vcM [.tmp 4] Tryz.func189 rfl rfl rfl rfl (fun hok => ?_)
  have hs : xs.length ≤ big := len_map hok.1.1
  repeat refine And.intro rfl ?_
  refine ⟨fun m l h => ∃ (i : Nat) , m = xs.length - i ∧ i ≤ xs.length ∧ (idx (·.name == s) xs = idxBy (·.name == s) (xs.drop i) i) ∧ l = [(0, .d (lGateField xs)), (1, .d (.str s)), (5, .d (.int .i64 i))] ∧ h = hp0,
    ⟨_, _, _, ⟨0, rfl, Nat.zero_le _, rfl, rfl, rfl⟩, rfl, rfl, ⟨rfl, rfl, rfl, trivial⟩, trivial, trivial⟩, ?_⟩
  rintro m l hh ⟨i, rfl, hi, hr, rfl, rfl⟩
  repeat refine And.intro rfl ?_
  refine And.intro (fun h1 => ?_) (fun h1 => ?_)
  · have hlt : i < xs.length := lt_map h1
    repeat refine And.intro rfl ?_
    refine ix_at (e := GateField.e) (xs := xs) (hlt) rfl ?_
    repeat refine And.intro rfl ?_
    rw [idxBy_step hlt] at hr
    repeat refine And.intro rfl ?_
    refine And.intro (fun h2 => ?_) (fun h2 => ?_)
    · refine nd ?_
      rw [hr, h2]; rfl
    · repeat refine And.intro rfl ?_
      exact ⟨_, _, _, ⟨i + 1, rfl, hlt, by rw [hr, h2]; rfl, rfl, rfl⟩, by omega, rfl, rfl, ⟨rfl, rfl, nd (wrap_succ hlt hs), trivial⟩, trivial, trivial⟩
  · refine nd ?_
    rw [hr, idxBy_end (ge_map h1)]
theorem any_map {α β : Type} {g : α → β} {p : β → Bool} {xs : List α} : (xs.map g).any p = xs.any (fun x => p (g x)) := by
  induction xs with
  | nil => rfl
  | cons x xs ih => simp [Function.comp_def]
theorem s_l1FieldOk (xs : List GateShape) (f : GateField) : Spec P 187 [.d (lGateShape xs), st f.e] (.d (.bool (fieldOkF (xs.map (·.kind)) f))) := by
  refine Spec.of_vc vcT vcM [.tmp 4] Tryz.func187 rfl rfl rfl rfl (fun hok => ?_)
  repeat refine And.intro rfl ?_
  refine Or.inl (Exists.intro _ (And.intro (s_l1NameOk _) ?_))
  repeat refine And.intro rfl ?_
  refine And.intro (fun h1 => ?_) (fun h1 => ?_)
  · repeat refine And.intro rfl ?_
    refine Or.inl (Exists.intro _ (And.intro (s_l1Bare _) ?_))
    repeat refine And.intro rfl ?_
    refine And.intro (fun h2 => ?_) (fun h2 => ?_)
    · repeat refine And.intro rfl ?_
      refine And.intro (fun h3 => ?_) (fun h3 => ?_)
      · repeat refine And.intro rfl ?_
        refine Or.inl (Exists.intro _ (And.intro (s_GateFits _ _) ?_))
        repeat refine And.intro rfl ?_
        refine And.intro (fun h4 => ?_) (fun h4 => ?_)
        · refine bd ?_
          simp only [Bool.not_eq_true', Bool.not_eq_false'] at h1 h2 h3 h4
          simp only [fieldOkF, h1, h2, h3, h4, Bool.or_false, Bool.true_and, Bool.false_and]
        · simp only [Bool.not_eq_true', Bool.not_eq_false'] at h1 h2 h3 h4
          have e : fieldOkF (xs.map (·.kind)) f = soundF (xs.map (·.kind)) f := by simp only [fieldOkF, h1, h2, h3, h4, Bool.or_true, Bool.true_and]
          rw [e]
          repeat' first
            | refine And.intro rfl ?_
            | refine And.intro (fun h => ?_) (fun h => ?_)
            | refine Or.inl (Exists.intro _ (And.intro (s_l1NameOk _) ?_))
            | refine Or.inl (Exists.intro _ (And.intro (s_l1In _ _ _) ?_))
            | refine Or.inl (Exists.intro _ (And.intro (s_l1Ascending _) ?_))
            | refine Or.inl (Exists.intro _ (And.intro (s_l1Shape _ _) ?_))
          all_goals (refine bd ?_; (try simp only [List.length_map] at *); first | (simp only [soundF, sound1, sound2, sound3, sound4, any_map, ← idx_any (xs := xs), *, Bool.false_or, Bool.true_or, Bool.or_false, Bool.or_true, Bool.and_true, Bool.true_and, Bool.and_false, Bool.false_and, Bool.not_true, Bool.not_false, Bool.not_not, cond_true, cond_false]; done) | (exfalso; simp_all))
      · simp only [Bool.not_eq_true', Bool.not_eq_false'] at h1 h2 h3
        have e : fieldOkF (xs.map (·.kind)) f = soundF (xs.map (·.kind)) f := by simp only [fieldOkF, h1, h2, h3, Bool.true_or, Bool.true_and]
        rw [e]
        repeat' first
          | refine And.intro rfl ?_
          | refine And.intro (fun h => ?_) (fun h => ?_)
          | refine Or.inl (Exists.intro _ (And.intro (s_l1NameOk _) ?_))
          | refine Or.inl (Exists.intro _ (And.intro (s_l1In _ _ _) ?_))
          | refine Or.inl (Exists.intro _ (And.intro (s_l1Ascending _) ?_))
          | refine Or.inl (Exists.intro _ (And.intro (s_l1Shape _ _) ?_))
        all_goals (refine bd ?_; (try simp only [List.length_map] at *); first | (simp only [soundF, sound1, sound2, sound3, sound4, any_map, ← idx_any (xs := xs), *, Bool.false_or, Bool.true_or, Bool.or_false, Bool.or_true, Bool.and_true, Bool.true_and, Bool.and_false, Bool.false_and, Bool.not_true, Bool.not_false, Bool.not_not, cond_true, cond_false]; done) | (exfalso; simp_all))
    · refine bd ?_
      simp only [Bool.not_eq_true', Bool.not_eq_false'] at h1 h2
      simp only [fieldOkF, h1, h2, Bool.false_and, Bool.and_false]
  · refine bd ?_
    simp only [Bool.not_eq_true', Bool.not_eq_false'] at h1
    simp only [fieldOkF, h1, Bool.false_and]
end Go.Vc
end

section
namespace Go.Vc
open Go.Proofs
set_option maxRecDepth 100000
set_option pp.maxSteps 400
set_option pp.deepTerms false
set_option linter.unusedSimpArgs false
set_option linter.unusedVariables false
/-! ### maps from texts -/
def ent (v : AV) (s : Bs) : List D × AV := ([.str s], v)
theorem bs_comm (a b : Bs) : (a == b) = (b == a) := by rw [Bool.eq_iff_iff, beq_iff_eq, beq_iff_eq]; exact eq_comm
theorem mapLook_none {v : AV} {s : Bs} : ∀ {pre : List Bs}, pre.any (· == s) = false → mapLook (pre.map (ent v)) [.str s] = none
  | [], _ => rfl
  | x :: pre, h => by
    simp only [List.any_cons, Bool.or_eq_false_iff] at h
    simp only [List.map_cons, ent, mapLook, keyEq, bs_comm s x, h.1]
    exact mapLook_none h.2
theorem mapLook_some {v : AV} {s : Bs} : ∀ {pre : List Bs}, pre.any (· == s) = true → mapLook (pre.map (ent v)) [.str s] = some v
  | [], h => by simp at h
  | x :: pre, h => by
    simp only [List.map_cons, ent, mapLook, keyEq, bs_comm s x]
    cases hx : (x == s) with
    | true => rfl
    | false => simp only [List.any_cons, hx, Bool.false_or] at h; exact mapLook_some h
theorem mapPut_none {v u : AV} {s : Bs} : ∀ {pre : List Bs}, pre.any (· == s) = false → mapPut (pre.map (ent v)) [.str s] u = pre.map (ent v) ++ [([.str s], u)]
  | [], _ => rfl
  | x :: pre, h => by
    simp only [List.any_cons, Bool.or_eq_false_iff] at h
    simp only [List.map_cons, ent, mapPut, keyEq, bs_comm s x, h.1, List.cons_append]
    rw [← mapPut_none (v := v) (u := u) h.2]
theorem mapLook_put {s : Bs} {u : AV} : ∀ {es : List (List D × AV)}, mapLook (mapPut es [.str s] u) [.str s] = some u
  | [] => by simp only [mapPut, mapLook, keyEq, BEq.rfl]
  | (k, a) :: es => by
    cases hk : keyEq [.str s] k with
    | true => simp only [mapPut, hk, mapLook]
    | false => simp only [mapPut, hk, mapLook, mapLook_put]
theorem map_tab {t : Nat} {tk : TK} {es es' : List (List D × AV)} (h : es = es') : some (AO.map t tk es) = some (AO.map t tk es') := by rw [h]
theorem ltM_pre {v : AV} {n : Nat} (hv : v.lt n = true) : ∀ {pre : List Bs}, ltM n (pre.map (ent v))
  | [] => trivial
  | _ :: _ => ⟨hv, ltM_pre hv⟩
theorem seen_next {kinds : List Bs} {fs : List GateField} {i : Nat} (h : i < fs.length) (hd : ((fs.take i).map (·.name)).any (· == fs[i].name) = false) :
    mapPut (((fs.take i).map (·.name)).map (ent (.d (.int .i64 1)))) [.str fs[i].name] (.d (.int .i64 (IntKind.i64.wrap (0 + 1)))) = ((fs.take (i + 1)).map (·.name)).map (ent (.d (.int .i64 1))) := by
  rw [mapPut_none hd, List.take_succ_eq_append_getElem h]
  simp only [List.map_append, List.map_cons, List.map_nil]
  rfl
theorem i_shapeOk (s : GateShape) (kinds : List Bs) : Spec P 196 [st s.e, .d (lS kinds)] (.d (.bool (shapeOkF kinds s))) := by
  refine Spec.of_vc vcT vcM [.tmp 4] Tryz.func196 rfl rfl rfl rfl (fun hok => ?_)
  have hs : s.fields.length ≤ big := by
    have := hok.1
    simp only [st, AV.ok, GateShape.e, List.map, okAs] at this
    exact len_map this.2.1.1
  repeat refine And.intro rfl ?_
  refine And.intro (fun h0 => ?_) (fun h0 => ?_)
  · refine bd ?_
    rw [List.length_map] at h0
    simp only [shapeOkF, h0]; rfl
  rw [List.length_map] at h0
  have e : shapeOkF kinds s = flds kinds [] s.fields := by simp only [shapeOkF, h0]; rfl
  rw [e]
  repeat refine And.intro rfl ?_
  refine ⟨fun m l h => ∃ (i : Nat) , m = s.fields.length - i ∧ i ≤ s.fields.length ∧ (flds kinds [] s.fields = flds kinds ((s.fields.take i).map (·.name)) (s.fields.drop i)) ∧ l = [(1, .d (lS kinds)), (5, .mapr 1), (16, .d (lGateField s.fields)), (17, .d (.int .i64 (s.fields.map GateField.e).length)), (18, .d (.int .i64 i))] ∧ h = ⟨[(1, .map 296 .str (((s.fields.take i).map (·.name)).map (ent (.d (.int .i64 1)))))], 2, 0⟩,
    ⟨_, _, _, ⟨0, rfl, Nat.zero_le _, rfl, rfl, rfl⟩, rfl, rfl, ⟨rfl, rfl, rfl, rfl, rfl, trivial⟩, ⟨⟨rfl, ltM_pre rfl⟩, trivial⟩, ⟨rfl, trivial⟩⟩, ?_⟩
  rintro m l hh ⟨i, rfl, hi, hr, rfl, rfl⟩
  repeat refine And.intro rfl ?_
  refine And.intro (fun h1 => ?_) (fun h1 => ?_)
  · have hlt : i < s.fields.length := lt_map h1
    rw [flds_step hlt] at hr
    repeat refine And.intro rfl ?_
    refine ix_at (e := GateField.e) (xs := s.fields) (hlt) rfl ?_
    repeat refine And.intro rfl ?_
    cases hd : ((s.fields.take i).map (·.name)).any (· == s.fields[i].name) with
    | true =>
      refine ⟨_, mapLook_some hd, ?_⟩
      repeat refine And.intro rfl ?_
      repeat refine And.intro rfl ?_
      refine Or.inl (Exists.intro _ (And.intro (i_isName _) ?_))
      repeat refine And.intro rfl ?_
      refine And.intro (fun h2 => ?_) (fun h2 => ?_)
      · repeat refine And.intro rfl ?_
        refine ⟨_, mapLook_put, ?_⟩
        refine And.intro (fun _ => ?_) (fun h => absurd h (by decide))
        refine bd ?_
        rw [hr, hd]; rfl
      · refine bd ?_
        rw [hr, hd]; rfl
    | false =>
      rw [hd] at hr
      refine ⟨_, mapLook_none hd, ?_⟩
      repeat refine And.intro rfl ?_
      repeat refine And.intro rfl ?_
      refine Or.inl (Exists.intro _ (And.intro (i_isName _) ?_))
      repeat refine And.intro rfl ?_
      refine And.intro (fun h2 => ?_) (fun h2 => ?_)
      · repeat refine And.intro rfl ?_
        refine ⟨_, mapLook_put, ?_⟩
        refine And.intro (fun h => absurd h (by decide)) (fun _ => ?_)
        simp only [Bool.not_eq_true', Bool.not_eq_false'] at h2
        cases h1 : s.fields[i].kind == 1
        · cases h2' : s.fields[i].kind == 2
          · cases h3 : s.fields[i].kind == 3
            · cases h4 : s.fields[i].kind == 4
              · repeat refine And.intro rfl ?_
                refine Or.inl (Exists.intro _ (And.intro (i_sortOf0 s.fields[i] h1 h2' h3 h4) ?_))
                repeat refine And.intro rfl ?_
                refine And.intro (fun h => absurd h (by simp)) (fun _ => ?_)
                refine bd ?_
                rw [hr, show fieldOkF kinds s.fields[i] = false from by simp only [fieldOkF, soundF, h1, h2', h3, h4, cond_false, Bool.and_false]]; rfl
              · repeat refine And.intro rfl ?_
                refine Or.inl (Exists.intro _ (And.intro (i_sortOf4 s.fields[i] (kind_is 4 h4)) ?_))
                repeat refine And.intro rfl ?_
                refine And.intro (fun _ => ?_) (fun h => absurd h (by simp))
                repeat refine And.intro rfl ?_
                refine Or.inl (Exists.intro _ (And.intro (i_lClean _) ?_))
                repeat refine And.intro rfl ?_
                refine And.intro (fun h5 => ?_) (fun h5 => ?_)
                · repeat refine And.intro rfl ?_
                  refine Or.inl (Exists.intro _ (And.intro (i_lSound _ _) ?_))
                  repeat refine And.intro rfl ?_
                  refine And.intro (fun h6 => ?_) (fun h6 => ?_)
                  · refine bd ?_
                    simp only [Bool.not_eq_true', Bool.not_eq_false'] at h5 h6
                    have e1 := bare4 (kind_is 4 h4)
                    have e2 : soundF kinds s.fields[i] = sound4 kinds s.fields[i] := by simp only [soundF, h1,h2',h3,h4, cond_true, cond_false]
                    rw [hr, show fieldOkF kinds s.fields[i] = false from by simp only [fieldOkF, e2, h6, Bool.and_false]]; rfl
                  · simp only [Bool.not_eq_true', Bool.not_eq_false'] at h5 h6
                    have e1 := bare4 (kind_is 4 h4)
                    have e2 : soundF kinds s.fields[i] = sound4 kinds s.fields[i] := by simp only [soundF, h1,h2',h3,h4, cond_true, cond_false]
                    repeat refine And.intro rfl ?_
                    refine And.intro (fun h7 => ?_) (fun h7 => ?_)
                    · repeat refine And.intro rfl ?_
                      refine Or.inl (Exists.intro _ (And.intro (i_GateFits _ _) ?_))
                      repeat refine And.intro rfl ?_
                      refine And.intro (fun h8 => ?_) (fun h8 => ?_)
                      · refine bd ?_
                        simp only [Bool.not_eq_true', Bool.not_eq_false'] at h7 h8
                        rw [hr, show fieldOkF kinds s.fields[i] = false from by simp only [fieldOkF, h7, h8, Bool.or_false, Bool.false_and, Bool.and_false]]; rfl
                      · simp only [Bool.not_eq_true', Bool.not_eq_false'] at h7 h8
                        repeat refine And.intro rfl ?_
                        exact ⟨_, _, _, ⟨i + 1, rfl, hlt, by rw [hr, show fieldOkF kinds s.fields[i] = true from by simp only [fieldOkF, h2, e1, e2, h5, h6, h8, Bool.or_true, Bool.true_and]]; rfl, rfl, rfl⟩, by omega, rfl, rfl, ⟨rfl, rfl, rfl, rfl, nd (wrap_succ hlt hs), trivial⟩, ⟨⟨rfl, ltM_pre rfl⟩, trivial⟩, ⟨map_tab (seen_next (kinds := kinds) hlt hd), trivial⟩⟩
                    · simp only [Bool.not_eq_true', Bool.not_eq_false'] at h7
                      repeat refine And.intro rfl ?_
                      exact ⟨_, _, _, ⟨i + 1, rfl, hlt, by rw [hr, show fieldOkF kinds s.fields[i] = true from by simp only [fieldOkF, h2, e1, e2, h5, h6, h7, Bool.true_or, Bool.true_and]]; rfl, rfl, rfl⟩, by omega, rfl, rfl, ⟨rfl, rfl, rfl, rfl, nd (wrap_succ hlt hs), trivial⟩, ⟨⟨rfl, ltM_pre rfl⟩, trivial⟩, ⟨map_tab (seen_next (kinds := kinds) hlt hd), trivial⟩⟩
                · refine bd ?_
                  simp only [Bool.not_eq_true', Bool.not_eq_false'] at h5
                  rw [hr, show fieldOkF kinds s.fields[i] = false from by simp only [fieldOkF, bare4 (kind_is 4 h4), h5, Bool.false_and, Bool.and_false]]; rfl
            · repeat refine And.intro rfl ?_
              refine Or.inl (Exists.intro _ (And.intro (i_sortOf3 s.fields[i] (kind_is 3 h3)) ?_))
              repeat refine And.intro rfl ?_
              refine And.intro (fun _ => ?_) (fun h => absurd h (by simp))
              repeat refine And.intro rfl ?_
              refine Or.inl (Exists.intro _ (And.intro (i_tClean _) ?_))
              repeat refine And.intro rfl ?_
              refine And.intro (fun h5 => ?_) (fun h5 => ?_)
              · repeat refine And.intro rfl ?_
                refine Or.inl (Exists.intro _ (And.intro (i_tSound _ _) ?_))
                repeat refine And.intro rfl ?_
                refine And.intro (fun h6 => ?_) (fun h6 => ?_)
                · refine bd ?_
                  simp only [Bool.not_eq_true', Bool.not_eq_false'] at h5 h6
                  have e1 := bare3 (kind_is 3 h3)
                  have e2 : soundF kinds s.fields[i] = sound3 s.fields[i] := by simp only [soundF, h1,h2',h3, cond_true, cond_false]
                  rw [hr, show fieldOkF kinds s.fields[i] = false from by simp only [fieldOkF, e2, h6, Bool.and_false]]; rfl
                · simp only [Bool.not_eq_true', Bool.not_eq_false'] at h5 h6
                  have e1 := bare3 (kind_is 3 h3)
                  have e2 : soundF kinds s.fields[i] = sound3 s.fields[i] := by simp only [soundF, h1,h2',h3, cond_true, cond_false]
                  repeat refine And.intro rfl ?_
                  refine And.intro (fun h7 => ?_) (fun h7 => ?_)
                  · repeat refine And.intro rfl ?_
                    refine Or.inl (Exists.intro _ (And.intro (i_GateFits _ _) ?_))
                    repeat refine And.intro rfl ?_
                    refine And.intro (fun h8 => ?_) (fun h8 => ?_)
                    · refine bd ?_
                      simp only [Bool.not_eq_true', Bool.not_eq_false'] at h7 h8
                      rw [hr, show fieldOkF kinds s.fields[i] = false from by simp only [fieldOkF, h7, h8, Bool.or_false, Bool.false_and, Bool.and_false]]; rfl
                    · simp only [Bool.not_eq_true', Bool.not_eq_false'] at h7 h8
                      repeat refine And.intro rfl ?_
                      exact ⟨_, _, _, ⟨i + 1, rfl, hlt, by rw [hr, show fieldOkF kinds s.fields[i] = true from by simp only [fieldOkF, h2, e1, e2, h5, h6, h8, Bool.or_true, Bool.true_and]]; rfl, rfl, rfl⟩, by omega, rfl, rfl, ⟨rfl, rfl, rfl, rfl, nd (wrap_succ hlt hs), trivial⟩, ⟨⟨rfl, ltM_pre rfl⟩, trivial⟩, ⟨map_tab (seen_next (kinds := kinds) hlt hd), trivial⟩⟩
                  · simp only [Bool.not_eq_true', Bool.not_eq_false'] at h7
                    repeat refine And.intro rfl ?_
                    exact ⟨_, _, _, ⟨i + 1, rfl, hlt, by rw [hr, show fieldOkF kinds s.fields[i] = true from by simp only [fieldOkF, h2, e1, e2, h5, h6, h7, Bool.true_or, Bool.true_and]]; rfl, rfl, rfl⟩, by omega, rfl, rfl, ⟨rfl, rfl, rfl, rfl, nd (wrap_succ hlt hs), trivial⟩, ⟨⟨rfl, ltM_pre rfl⟩, trivial⟩, ⟨map_tab (seen_next (kinds := kinds) hlt hd), trivial⟩⟩
              · refine bd ?_
                simp only [Bool.not_eq_true', Bool.not_eq_false'] at h5
                rw [hr, show fieldOkF kinds s.fields[i] = false from by simp only [fieldOkF, bare3 (kind_is 3 h3), h5, Bool.false_and, Bool.and_false]]; rfl
          · repeat refine And.intro rfl ?_
            refine Or.inl (Exists.intro _ (And.intro (i_sortOf2 s.fields[i] (kind_is 2 h2')) ?_))
            repeat refine And.intro rfl ?_
            refine And.intro (fun _ => ?_) (fun h => absurd h (by simp))
            repeat refine And.intro rfl ?_
            refine Or.inl (Exists.intro _ (And.intro (i_wClean _) ?_))
            repeat refine And.intro rfl ?_
            refine And.intro (fun h5 => ?_) (fun h5 => ?_)
            · repeat refine And.intro rfl ?_
              refine Or.inl (Exists.intro _ (And.intro (i_wSound _ _) ?_))
              repeat refine And.intro rfl ?_
              refine And.intro (fun h6 => ?_) (fun h6 => ?_)
              · refine bd ?_
                simp only [Bool.not_eq_true', Bool.not_eq_false'] at h5 h6
                have e1 := bare2 (kind_is 2 h2')
                have e2 : soundF kinds s.fields[i] = sound2 s.fields[i] := by simp only [soundF, h1,h2', cond_true, cond_false]
                rw [hr, show fieldOkF kinds s.fields[i] = false from by simp only [fieldOkF, e2, h6, Bool.and_false]]; rfl
              · simp only [Bool.not_eq_true', Bool.not_eq_false'] at h5 h6
                have e1 := bare2 (kind_is 2 h2')
                have e2 : soundF kinds s.fields[i] = sound2 s.fields[i] := by simp only [soundF, h1,h2', cond_true, cond_false]
                repeat refine And.intro rfl ?_
                refine And.intro (fun h7 => ?_) (fun h7 => ?_)
                · repeat refine And.intro rfl ?_
                  refine Or.inl (Exists.intro _ (And.intro (i_GateFits _ _) ?_))
                  repeat refine And.intro rfl ?_
                  refine And.intro (fun h8 => ?_) (fun h8 => ?_)
                  · refine bd ?_
                    simp only [Bool.not_eq_true', Bool.not_eq_false'] at h7 h8
                    rw [hr, show fieldOkF kinds s.fields[i] = false from by simp only [fieldOkF, h7, h8, Bool.or_false, Bool.false_and, Bool.and_false]]; rfl
                  · simp only [Bool.not_eq_true', Bool.not_eq_false'] at h7 h8
                    repeat refine And.intro rfl ?_
                    exact ⟨_, _, _, ⟨i + 1, rfl, hlt, by rw [hr, show fieldOkF kinds s.fields[i] = true from by simp only [fieldOkF, h2, e1, e2, h5, h6, h8, Bool.or_true, Bool.true_and]]; rfl, rfl, rfl⟩, by omega, rfl, rfl, ⟨rfl, rfl, rfl, rfl, nd (wrap_succ hlt hs), trivial⟩, ⟨⟨rfl, ltM_pre rfl⟩, trivial⟩, ⟨map_tab (seen_next (kinds := kinds) hlt hd), trivial⟩⟩
                · simp only [Bool.not_eq_true', Bool.not_eq_false'] at h7
                  repeat refine And.intro rfl ?_
                  exact ⟨_, _, _, ⟨i + 1, rfl, hlt, by rw [hr, show fieldOkF kinds s.fields[i] = true from by simp only [fieldOkF, h2, e1, e2, h5, h6, h7, Bool.true_or, Bool.true_and]]; rfl, rfl, rfl⟩, by omega, rfl, rfl, ⟨rfl, rfl, rfl, rfl, nd (wrap_succ hlt hs), trivial⟩, ⟨⟨rfl, ltM_pre rfl⟩, trivial⟩, ⟨map_tab (seen_next (kinds := kinds) hlt hd), trivial⟩⟩
            · refine bd ?_
              simp only [Bool.not_eq_true', Bool.not_eq_false'] at h5
              rw [hr, show fieldOkF kinds s.fields[i] = false from by simp only [fieldOkF, bare2 (kind_is 2 h2'), h5, Bool.false_and, Bool.and_false]]; rfl
        · repeat refine And.intro rfl ?_
          refine Or.inl (Exists.intro _ (And.intro (i_sortOf1 s.fields[i] (kind_is 1 h1)) ?_))
          repeat refine And.intro rfl ?_
          refine And.intro (fun _ => ?_) (fun h => absurd h (by simp))
          repeat refine And.intro rfl ?_
          refine Or.inl (Exists.intro _ (And.intro (i_nClean _) ?_))
          repeat refine And.intro rfl ?_
          refine And.intro (fun h5 => ?_) (fun h5 => ?_)
          · repeat refine And.intro rfl ?_
            refine Or.inl (Exists.intro _ (And.intro (i_nSound _ _) ?_))
            repeat refine And.intro rfl ?_
            refine And.intro (fun h6 => ?_) (fun h6 => ?_)
            · refine bd ?_
              simp only [Bool.not_eq_true', Bool.not_eq_false'] at h5 h6
              have e1 := bare1 (kind_is 1 h1)
              have e2 : soundF kinds s.fields[i] = sound1 s.fields[i] := by simp only [soundF, h1, cond_true, cond_false]
              rw [hr, show fieldOkF kinds s.fields[i] = false from by simp only [fieldOkF, e2, h6, Bool.and_false]]; rfl
            · simp only [Bool.not_eq_true', Bool.not_eq_false'] at h5 h6
              have e1 := bare1 (kind_is 1 h1)
              have e2 : soundF kinds s.fields[i] = sound1 s.fields[i] := by simp only [soundF, h1, cond_true, cond_false]
              repeat refine And.intro rfl ?_
              refine And.intro (fun h7 => ?_) (fun h7 => ?_)
              · repeat refine And.intro rfl ?_
                refine Or.inl (Exists.intro _ (And.intro (i_GateFits _ _) ?_))
                repeat refine And.intro rfl ?_
                refine And.intro (fun h8 => ?_) (fun h8 => ?_)
                · refine bd ?_
                  simp only [Bool.not_eq_true', Bool.not_eq_false'] at h7 h8
                  rw [hr, show fieldOkF kinds s.fields[i] = false from by simp only [fieldOkF, h7, h8, Bool.or_false, Bool.false_and, Bool.and_false]]; rfl
                · simp only [Bool.not_eq_true', Bool.not_eq_false'] at h7 h8
                  repeat refine And.intro rfl ?_
                  exact ⟨_, _, _, ⟨i + 1, rfl, hlt, by rw [hr, show fieldOkF kinds s.fields[i] = true from by simp only [fieldOkF, h2, e1, e2, h5, h6, h8, Bool.or_true, Bool.true_and]]; rfl, rfl, rfl⟩, by omega, rfl, rfl, ⟨rfl, rfl, rfl, rfl, nd (wrap_succ hlt hs), trivial⟩, ⟨⟨rfl, ltM_pre rfl⟩, trivial⟩, ⟨map_tab (seen_next (kinds := kinds) hlt hd), trivial⟩⟩
              · simp only [Bool.not_eq_true', Bool.not_eq_false'] at h7
                repeat refine And.intro rfl ?_
                exact ⟨_, _, _, ⟨i + 1, rfl, hlt, by rw [hr, show fieldOkF kinds s.fields[i] = true from by simp only [fieldOkF, h2, e1, e2, h5, h6, h7, Bool.true_or, Bool.true_and]]; rfl, rfl, rfl⟩, by omega, rfl, rfl, ⟨rfl, rfl, rfl, rfl, nd (wrap_succ hlt hs), trivial⟩, ⟨⟨rfl, ltM_pre rfl⟩, trivial⟩, ⟨map_tab (seen_next (kinds := kinds) hlt hd), trivial⟩⟩
          · refine bd ?_
            simp only [Bool.not_eq_true', Bool.not_eq_false'] at h5
            rw [hr, show fieldOkF kinds s.fields[i] = false from by simp only [fieldOkF, bare1 (kind_is 1 h1), h5, Bool.false_and, Bool.and_false]]; rfl
      · refine bd ?_
        simp only [Bool.not_eq_true', Bool.not_eq_false'] at h2
        rw [hr, show fieldOkF kinds s.fields[i] = false from by simp only [fieldOkF, h2, Bool.false_and]]; rfl
  · refine bd ?_
    rw [hr, flds_end (ge_map h1)]
end Go.Vc
end

section
namespace Go.Vc
open Go.Proofs
set_option maxRecDepth 100000
set_option pp.maxSteps 400
set_option pp.deepTerms false
set_option linter.unusedSimpArgs false
set_option linter.unusedVariables false
theorem row_tab {t n : Nat} {a b : List (List D)} (h : a = b) : some (AO.row t n a) = some (AO.row t n b) := by rw [h]
theorem take_snoc {α : Type} {xs : List α} {i : Nat} {g : α → List D} (h : i < xs.length) : (xs.take i).map g ++ [g xs[i]] = (xs.take (i + 1)).map g := by
  rw [List.take_succ_eq_append_getElem h, List.map_append]; rfl
theorem ascK_map {α : Type} {key : α → Bs} : ∀ {xs : List α} {p : Option Bs}, ascK id p (xs.map key) = ascK key p xs
  | [], p => by cases p <;> rfl
  | x :: xs, p => by simp only [List.map_cons, ascK, id, ascK_map]
theorem i_GateShapesOk (xs : List GateShape) : Spec P 160 [.d (lGateShape xs)] (.d (.bool (shapesOk xs))) := by
  refine Spec.of_vc vcT vcM [.tmp 2] Tryz.func160 rfl rfl rfl rfl (fun hok => ?_)
  have hs : xs.length ≤ big := len_map hok.1.1
  repeat refine And.intro rfl ?_
  refine And.intro (fun h0 => ?_) (fun h0 => ?_)
  · refine bd ?_
    rw [List.length_map] at h0
    simp only [shapesOk, h0]; rfl
  rw [List.length_map] at h0
  have e : shapesOk xs = (asc (xs.map (·.kind)) && xs.all (shapeOkF (xs.map (·.kind)))) := by simp only [shapesOk, h0, asc, ascK_map]; rfl
  rw [e]
  repeat refine And.intro rfl ?_
  refine And.intro (Int.le_refl 0) (And.intro (Int.natCast_nonneg _) (And.intro (mk_ok hs) ?_))
  repeat refine And.intro rfl ?_
  refine ⟨fun m l h => ∃ (i : Nat) , m = xs.length - i ∧ i ≤ xs.length ∧ (True) ∧ l = [(0, .d (lGateShape xs)), (3, .own 0), (14, .d (lGateShape xs)), (15, .d (.int .i64 (xs.map GateShape.e).length)), (16, .d (.int .i64 i))] ∧ h = ⟨[(0, .row 9 1 ((xs.take i).map fun s => [.str s.kind]))], 1, 0⟩,
    ⟨_, _, _, ⟨0, rfl, Nat.zero_le _, trivial, rfl, rfl⟩, rfl, rfl, ⟨rfl, rfl, rfl, rfl, rfl, trivial⟩, ⟨rfl, trivial⟩, ⟨rfl, trivial⟩⟩, ?_⟩
  rintro m l hh ⟨i, rfl, hi, hr, rfl, rfl⟩
  repeat refine And.intro rfl ?_
  refine And.intro (fun h1 => ?_) (fun h1 => ?_)
  · have hlt : i < xs.length := lt_map h1
    repeat refine And.intro rfl ?_
    refine ix_at (e := GateShape.e) (xs := xs) (hlt) rfl ?_
    repeat refine And.intro rfl ?_
    refine And.intro (fun r hr => by rw [List.mem_singleton.1 hr]; rfl) ?_
    repeat refine And.intro rfl ?_
    refine And.intro (by simp only [List.length_map, List.length_take, List.length_cons, List.length_nil]; unfold big at *; omega) ?_
    repeat refine And.intro rfl ?_
    exact ⟨_, _, _, ⟨i + 1, rfl, hlt, trivial, rfl, rfl⟩, by omega, rfl, rfl, ⟨rfl, rfl, rfl, rfl, nd (wrap_succ hlt hs), trivial⟩, ⟨rfl, trivial⟩, ⟨row_tab (take_snoc (g := fun s => [D.str s.kind]) hlt), trivial⟩⟩
  · have hge := ge_map h1
    have ek : (xs.take i).map (fun s => [D.str s.kind]) = (xs.map (·.kind)).map eB := by
      rw [List.take_of_length_le hge, List.map_map]; rfl
    rw [ek]
    repeat refine And.intro rfl ?_
    refine Or.inl (Exists.intro _ (And.intro (i_ascendingNames (xs.map fun s : GateShape => s.kind)) ?_))
    repeat refine And.intro rfl ?_
    refine And.intro (fun h2 => ?_) (fun h2 => ?_)
    · refine bd ?_
      simp only [Bool.not_eq_true', Bool.not_eq_false'] at h2
      rw [h2]; rfl
    · simp only [Bool.not_eq_true', Bool.not_eq_false'] at h2
      rw [h2, Bool.true_and]
      repeat refine And.intro rfl ?_
      refine ⟨fun m l h => ∃ (i : Nat) , m = xs.length - i ∧ i ≤ xs.length ∧ (xs.all (shapeOkF (xs.map (·.kind))) = (xs.drop i).all (shapeOkF (xs.map (·.kind)))) ∧ l = [(3, .own 0), (29, .d (lGateShape xs)), (30, .d (.int .i64 (xs.map GateShape.e).length)), (31, .d (.int .i64 i))] ∧ h = ⟨[(0, .row 9 1 ((xs.map (·.kind)).map eB))], 1, 0⟩,
        ⟨_, _, _, ⟨0, rfl, Nat.zero_le _, rfl, rfl, rfl⟩, rfl, rfl, ⟨rfl, rfl, rfl, rfl, trivial⟩, ⟨rfl, trivial⟩, ⟨rfl, trivial⟩⟩, ?_⟩
      rintro m l hh ⟨i, rfl, hi, hr, rfl, rfl⟩
      repeat refine And.intro rfl ?_
      refine And.intro (fun h3 => ?_) (fun h3 => ?_)
      · have hlt : i < xs.length := lt_map h3
        rw [all_step hlt] at hr
        repeat refine And.intro rfl ?_
        refine ix_at (e := GateShape.e) (xs := xs) (hlt) rfl ?_
        repeat refine And.intro rfl ?_
        repeat refine And.intro rfl ?_
        refine Or.inl (Exists.intro _ (And.intro (i_shapeOk xs[i] (xs.map fun s : GateShape => s.kind)) ?_))
        repeat refine And.intro rfl ?_
        refine And.intro (fun h4 => ?_) (fun h4 => ?_)
        · refine bd ?_
          simp only [Bool.not_eq_true', Bool.not_eq_false'] at h4
          rw [hr, h4]; rfl
        · simp only [Bool.not_eq_true', Bool.not_eq_false'] at h4
          repeat refine And.intro rfl ?_
          exact ⟨_, _, _, ⟨i + 1, rfl, hlt, by rw [hr, h4]; rfl, rfl, rfl⟩, by omega, rfl, rfl, ⟨rfl, rfl, rfl, nd (wrap_succ hlt hs), trivial⟩, ⟨rfl, trivial⟩, ⟨rfl, trivial⟩⟩
      · refine bd ?_
        rw [hr, all_end (ge_map h3)]
end Go.Vc
end

section
namespace Go.Vc
open Go.Proofs
set_option maxRecDepth 100000
set_option pp.maxSteps 400
set_option pp.deepTerms false
set_option linter.unusedSimpArgs false
set_option linter.unusedVariables false
theorem lt_take {α : Type} {fs : List α} {j k : Nat} (hk : k ≤ fs.length) (h : decide ((j : Int) < (k : Int)) = true) : j < (fs.take k).length := by
  have := of_decide_eq_true h
  rw [List.length_take]; omega
theorem ge_take {α : Type} {fs : List α} {j k : Nat} (hk : k ≤ fs.length) (h : decide ((j : Int) < (k : Int)) = false) : (fs.take k).length ≤ j := by
  have := of_decide_eq_false h
  rw [List.length_take]; omega
theorem s_GateShapesOk (xs : List GateShape) : Spec P 148 [.d (lGateShape xs)] (.d (.bool (shapesOk xs))) := by
  refine Spec.of_vc vcT vcM [.tmp 2] Tryz.func148 rfl rfl rfl rfl (fun hok => ?_)
  have hs : xs.length ≤ big := len_map hok.1.1
  have hfs : ∀ i (h : i < xs.length), xs[i].fields.length ≤ big := by
    intro i h
    have h1 := okRows_iff.1 hok.1.2 _ (List.mem_map.2 ⟨xs[i], List.getElem_mem h, rfl⟩)
    exact len_map h1.2.1.1
  repeat refine And.intro rfl ?_
  refine And.intro (fun h0 => ?_) (fun h0 => ?_)
  · refine bd ?_
    rw [List.length_map] at h0
    simp only [shapesOk, h0]; rfl
  rw [List.length_map] at h0
  have e : shapesOk xs = (ascK (·.kind) none xs && xs.all (shapeOkF (xs.map (·.kind)))) := by simp only [shapesOk, h0]; rfl
  rw [e]
  repeat refine And.intro rfl ?_
  refine ⟨fun m l h => ∃ (i : Nat) , m = xs.length - i ∧ i ≤ xs.length ∧ ((ascK (·.kind) none xs && xs.all (shapeOkF (xs.map (·.kind)))) = (ascK (·.kind) (prevK (·.kind) xs i) (xs.drop i) && (xs.drop i).all (shapeOkF (xs.map (·.kind))))) ∧ l = [(0, .d (lGateShape xs)), (3, .d (.int .i64 i))] ∧ h = hp0,
    ⟨_, _, _, ⟨0, rfl, Nat.zero_le _, rfl, rfl, rfl⟩, rfl, rfl, ⟨rfl, rfl, trivial⟩, trivial, trivial⟩, ?_⟩
  rintro m l hh ⟨i, rfl, hi, hr, rfl, rfl⟩
  repeat refine And.intro rfl ?_
  refine And.intro (fun h1 => ?_) (fun h1 => ?_)
  · have hlt : i < xs.length := lt_map h1
    repeat refine And.intro rfl ?_
    refine ix_at (e := GateShape.e) (xs := xs) (hlt) rfl ?_
    repeat refine And.intro rfl ?_
    repeat refine And.intro rfl ?_
    refine And.intro (by kernel_rfl) ?_
    repeat refine And.intro rfl ?_
    repeat refine And.intro rfl ?_
    refine Or.inl (Exists.intro _ (And.intro (s_l1NameOk _) ?_))
    repeat refine And.intro rfl ?_
    refine And.intro (fun h2 => ?_) (fun h2 => ?_)
    · repeat refine And.intro rfl ?_
      refine And.intro (fun h3 => ?_) (fun h3 => ?_)
      · have h0' := gt0 h3
        repeat refine And.intro rfl ?_
        refine ix_atw (e := GateShape.e) (xs := xs) ((show i - 1 < xs.length by omega)) (wrap_pred h0' hlt hs) rfl ?_
        repeat refine And.intro rfl ?_
        repeat refine And.intro rfl ?_
        refine And.intro (fun h4 => ?_) (fun h4 => ?_)
        · have ha := asc_ok (key := fun s : GateShape => s.kind) hlt h2 (.inr ⟨h0', h4⟩)
          repeat refine And.intro rfl ?_
          refine And.intro (fun h5 => ?_) (fun h5 => ?_)
          · refine bd ?_
            rw [List.length_map] at h5
            rw [hr, all_step hlt, show shapeOkF (xs.map (·.kind)) (xs[i]'hlt) = false from by unfold shapeOkF; rw [show decide (((xs[i]'hlt).fields.length : Int) > 6) = true from h5]; rfl, Bool.false_and, Bool.and_false]
          · rw [List.length_map] at h5
            have es : shapeOkF (xs.map (·.kind)) (xs[i]'hlt) = flds (xs.map (·.kind)) [] (xs[i]'hlt).fields := by unfold shapeOkF; rw [show decide (((xs[i]'hlt).fields.length : Int) > 6) = false from h5]; rfl
            rw [ha, all_step hlt, es] at hr
            have hro := hr
            clear hr
            refine ⟨fun m l h => ∃ k : Nat, m = (xs[i]'hlt).fields.length - k ∧ k ≤ (xs[i]'hlt).fields.length ∧ flds (xs.map (·.kind)) [] (xs[i]'hlt).fields = flds (xs.map (·.kind)) (((xs[i]'hlt).fields.take k).map (·.name)) ((xs[i]'hlt).fields.drop k) ∧ l = [(0, .d (lGateShape xs)), (3, .d (.int .i64 i)), (4, .ptr 0 0), (5, .d (.int .i64 k))] ∧ h = ⟨[(0, .cells 139 ((xs[i]'hlt).e.map .d))], 1, 0⟩,
              ⟨_, _, _, ⟨0, rfl, Nat.zero_le _, rfl, rfl, rfl⟩, rfl, rfl, ⟨rfl, rfl, rfl, rfl, trivial⟩, ⟨rfl, trivial⟩, ⟨rfl, trivial⟩⟩, ?_⟩
            rintro m l hh ⟨k, rfl, hk, hr, rfl, rfl⟩
            repeat refine And.intro rfl ?_
            refine And.intro (fun h6 => ?_) (fun h6 => ?_)
            · have hlk : k < (xs[i]'hlt).fields.length := lt_map h6
              rw [flds_step hlk] at hr
              repeat refine And.intro rfl ?_
              refine ix_at (e := GateField.e) (xs := (xs[i]'hlt).fields) (hlk) rfl ?_
              repeat refine And.intro rfl ?_
              repeat refine And.intro rfl ?_
              refine Or.inl (Exists.intro _ (And.intro (s_l1FieldOk xs ((xs[i]'hlt).fields[k]'hlk)) ?_))
              repeat refine And.intro rfl ?_
              refine And.intro (fun h7 => ?_) (fun h7 => ?_)
              · refine bd ?_
                simp only [Bool.not_eq_true', Bool.not_eq_false'] at h7
                rw [hro, hr, show fieldOkF (xs.map (·.kind)) ((xs[i]'hlt).fields[k]'hlk) = false from h7]
                simp only [Bool.false_and, Bool.and_false]
              · simp only [Bool.not_eq_true', Bool.not_eq_false'] at h7
                have hr1 := hr
                repeat refine And.intro rfl ?_
                refine ⟨fun m l h => ∃ (j : Nat) , m = ((xs[i]'hlt).fields.take k).length - j ∧ j ≤ ((xs[i]'hlt).fields.take k).length ∧ ((((xs[i]'hlt).fields.take k).map (·.name)).any (· == ((xs[i]'hlt).fields[k]'hlk).name) = (((xs[i]'hlt).fields.take k).drop j).any (fun f => f.name == ((xs[i]'hlt).fields[k]'hlk).name)) ∧ l = [(0, .d (lGateShape xs)), (3, .d (.int .i64 i)), (4, .ptr 0 0), (5, .d (.int .i64 k)), (6, .d (.int .i64 j))] ∧ h = ⟨[(0, .cells 139 ((xs[i]'hlt).e.map .d))], 1, 0⟩,
                  ⟨_, _, _, ⟨0, rfl, Nat.zero_le _, any_map, rfl, rfl⟩, rfl, rfl, ⟨rfl, rfl, rfl, rfl, rfl, trivial⟩, ⟨rfl, trivial⟩, ⟨rfl, trivial⟩⟩, ?_⟩
                rintro m l hh ⟨j, rfl, hj, hr, rfl, rfl⟩
                have hr' := hr
                have hr := hr1
                clear hr1
                repeat refine And.intro rfl ?_
                refine And.intro (fun h8 => ?_) (fun h8 => ?_)
                · have hlj := lt_take hk h8
                  have hjf : j < (xs[i]'hlt).fields.length := by have := hlj; rw [List.length_take] at this; omega
                  rw [any_step hlj] at hr'
                  repeat refine And.intro rfl ?_
                  refine And.intro (by kernel_rfl) ?_
                  repeat refine And.intro rfl ?_
                  repeat refine And.intro rfl ?_
                  refine ix_at (e := GateField.e) (xs := (xs[i]'hlt).fields) (hjf) rfl ?_
                  repeat refine And.intro rfl ?_
                  repeat refine And.intro rfl ?_
                  refine ix_at (e := GateField.e) (xs := (xs[i]'hlt).fields) (hlk) rfl ?_
                  repeat refine And.intro rfl ?_
                  have et : ((xs[i]'hlt).fields.take k)[j]'hlj = (xs[i]'hlt).fields[j]'hjf := List.getElem_take
                  rw [et] at hr'
                  repeat refine And.intro rfl ?_
                  refine And.intro (fun h9 => ?_) (fun h9 => ?_)
                  · refine bd ?_
                    rw [hro, hr, hr', h9]; simp only [Bool.true_or, Bool.not_true, Bool.false_and, Bool.and_false]
                  · repeat refine And.intro rfl ?_
                    exact ⟨_, _, _, ⟨j + 1, rfl, hlj, by rw [hr', h9]; rfl, rfl, rfl⟩, by omega, rfl, rfl, ⟨rfl, rfl, rfl, rfl, nd (wrap_succ hlj (by rw [List.length_take]; have := hfs i hlt; omega)), trivial⟩, ⟨rfl, trivial⟩, ⟨rfl, trivial⟩⟩
                · rw [any_end (ge_take hk h8)] at hr'
                  rw [hr', h7] at hr
                  repeat refine And.intro rfl ?_
                  exact ⟨_, _, _, ⟨k + 1, rfl, hlk, by rw [hr]; rfl, rfl, rfl⟩, by omega, rfl, rfl, ⟨rfl, rfl, rfl, nd (wrap_succ hlk (hfs i hlt)), trivial⟩, ⟨rfl, trivial⟩, ⟨rfl, trivial⟩⟩
            · have hk' := ge_map h6
              rw [flds_end hk'] at hr
              repeat refine And.intro rfl ?_
              exact ⟨_, _, _, ⟨i + 1, rfl, hlt, by rw [hro, hr, Bool.true_and], rfl, rfl⟩, by omega, rfl, rfl, ⟨rfl, nd (wrap_succ hlt hs), trivial⟩, trivial, trivial⟩
        · repeat refine And.intro rfl ?_
          refine And.intro (fun _ => ?_) (fun h => absurd h (by simp))
          refine bd ?_
          rw [hr, ← asc_less (key := fun s : GateShape => s.kind) hlt h0' h4]; rfl
      · repeat refine And.intro rfl ?_
        refine And.intro (fun _ => ?_) (fun h => absurd h (by simp))
        have ha := asc_ok (key := fun s : GateShape => s.kind) hlt h2 (.inl (le0 h3))
        repeat refine And.intro rfl ?_
        refine And.intro (fun h5 => ?_) (fun h5 => ?_)
        · refine bd ?_
          rw [List.length_map] at h5
          rw [hr, all_step hlt, show shapeOkF (xs.map (·.kind)) (xs[i]'hlt) = false from by unfold shapeOkF; rw [show decide (((xs[i]'hlt).fields.length : Int) > 6) = true from h5]; rfl, Bool.false_and, Bool.and_false]
        · rw [List.length_map] at h5
          have es : shapeOkF (xs.map (·.kind)) (xs[i]'hlt) = flds (xs.map (·.kind)) [] (xs[i]'hlt).fields := by unfold shapeOkF; rw [show decide (((xs[i]'hlt).fields.length : Int) > 6) = false from h5]; rfl
          rw [ha, all_step hlt, es] at hr
          have hro := hr
          clear hr
          refine ⟨fun m l h => ∃ k : Nat, m = (xs[i]'hlt).fields.length - k ∧ k ≤ (xs[i]'hlt).fields.length ∧ flds (xs.map (·.kind)) [] (xs[i]'hlt).fields = flds (xs.map (·.kind)) (((xs[i]'hlt).fields.take k).map (·.name)) ((xs[i]'hlt).fields.drop k) ∧ l = [(0, .d (lGateShape xs)), (3, .d (.int .i64 i)), (4, .ptr 0 0), (5, .d (.int .i64 k))] ∧ h = ⟨[(0, .cells 139 ((xs[i]'hlt).e.map .d))], 1, 0⟩,
            ⟨_, _, _, ⟨0, rfl, Nat.zero_le _, rfl, rfl, rfl⟩, rfl, rfl, ⟨rfl, rfl, rfl, rfl, trivial⟩, ⟨rfl, trivial⟩, ⟨rfl, trivial⟩⟩, ?_⟩
          rintro m l hh ⟨k, rfl, hk, hr, rfl, rfl⟩
          repeat refine And.intro rfl ?_
          refine And.intro (fun h6 => ?_) (fun h6 => ?_)
          · have hlk : k < (xs[i]'hlt).fields.length := lt_map h6
            rw [flds_step hlk] at hr
            repeat refine And.intro rfl ?_
            refine ix_at (e := GateField.e) (xs := (xs[i]'hlt).fields) (hlk) rfl ?_
            repeat refine And.intro rfl ?_
            repeat refine And.intro rfl ?_
            refine Or.inl (Exists.intro _ (And.intro (s_l1FieldOk xs ((xs[i]'hlt).fields[k]'hlk)) ?_))
            repeat refine And.intro rfl ?_
            refine And.intro (fun h7 => ?_) (fun h7 => ?_)
            · refine bd ?_
              simp only [Bool.not_eq_true', Bool.not_eq_false'] at h7
              rw [hro, hr, show fieldOkF (xs.map (·.kind)) ((xs[i]'hlt).fields[k]'hlk) = false from h7]
              simp only [Bool.false_and, Bool.and_false]
            · simp only [Bool.not_eq_true', Bool.not_eq_false'] at h7
              have hr1 := hr
              repeat refine And.intro rfl ?_
              refine ⟨fun m l h => ∃ (j : Nat) , m = ((xs[i]'hlt).fields.take k).length - j ∧ j ≤ ((xs[i]'hlt).fields.take k).length ∧ ((((xs[i]'hlt).fields.take k).map (·.name)).any (· == ((xs[i]'hlt).fields[k]'hlk).name) = (((xs[i]'hlt).fields.take k).drop j).any (fun f => f.name == ((xs[i]'hlt).fields[k]'hlk).name)) ∧ l = [(0, .d (lGateShape xs)), (3, .d (.int .i64 i)), (4, .ptr 0 0), (5, .d (.int .i64 k)), (6, .d (.int .i64 j))] ∧ h = ⟨[(0, .cells 139 ((xs[i]'hlt).e.map .d))], 1, 0⟩,
                ⟨_, _, _, ⟨0, rfl, Nat.zero_le _, any_map, rfl, rfl⟩, rfl, rfl, ⟨rfl, rfl, rfl, rfl, rfl, trivial⟩, ⟨rfl, trivial⟩, ⟨rfl, trivial⟩⟩, ?_⟩
              rintro m l hh ⟨j, rfl, hj, hr, rfl, rfl⟩
              have hr' := hr
              have hr := hr1
              clear hr1
              repeat refine And.intro rfl ?_
              refine And.intro (fun h8 => ?_) (fun h8 => ?_)
              · have hlj := lt_take hk h8
                have hjf : j < (xs[i]'hlt).fields.length := by have := hlj; rw [List.length_take] at this; omega
                rw [any_step hlj] at hr'
                repeat refine And.intro rfl ?_
                refine And.intro (by kernel_rfl) ?_
                repeat refine And.intro rfl ?_
                repeat refine And.intro rfl ?_
                refine ix_at (e := GateField.e) (xs := (xs[i]'hlt).fields) (hjf) rfl ?_
                repeat refine And.intro rfl ?_
                repeat refine And.intro rfl ?_
                refine ix_at (e := GateField.e) (xs := (xs[i]'hlt).fields) (hlk) rfl ?_
                repeat refine And.intro rfl ?_
                have et : ((xs[i]'hlt).fields.take k)[j]'hlj = (xs[i]'hlt).fields[j]'hjf := List.getElem_take
                rw [et] at hr'
                repeat refine And.intro rfl ?_
                refine And.intro (fun h9 => ?_) (fun h9 => ?_)
                · refine bd ?_
                  rw [hro, hr, hr', h9]; simp only [Bool.true_or, Bool.not_true, Bool.false_and, Bool.and_false]
                · repeat refine And.intro rfl ?_
                  exact ⟨_, _, _, ⟨j + 1, rfl, hlj, by rw [hr', h9]; rfl, rfl, rfl⟩, by omega, rfl, rfl, ⟨rfl, rfl, rfl, rfl, nd (wrap_succ hlj (by rw [List.length_take]; have := hfs i hlt; omega)), trivial⟩, ⟨rfl, trivial⟩, ⟨rfl, trivial⟩⟩
              · rw [any_end (ge_take hk h8)] at hr'
                rw [hr', h7] at hr
                repeat refine And.intro rfl ?_
                exact ⟨_, _, _, ⟨k + 1, rfl, hlk, by rw [hr]; rfl, rfl, rfl⟩, by omega, rfl, rfl, ⟨rfl, rfl, rfl, nd (wrap_succ hlk (hfs i hlt)), trivial⟩, ⟨rfl, trivial⟩, ⟨rfl, trivial⟩⟩
          · have hk' := ge_map h6
            rw [flds_end hk'] at hr
            repeat refine And.intro rfl ?_
            exact ⟨_, _, _, ⟨i + 1, rfl, hlt, by rw [hro, hr, Bool.true_and], rfl, rfl⟩, by omega, rfl, rfl, ⟨rfl, nd (wrap_succ hlt hs), trivial⟩, trivial, trivial⟩
    · repeat refine And.intro rfl ?_
      refine And.intro (fun h => absurd h (by simp)) (fun _ => ?_)
      repeat refine And.intro rfl ?_
      refine And.intro (fun _ => ?_) (fun h => absurd h (by simp))
      refine bd ?_
      rw [hr, ← asc_name (key := fun s : GateShape => s.kind) hlt h2]; rfl
  · refine bd ?_
    rw [hr, asc_end (ge_map h1), all_end (ge_map h1)]; rfl
end Go.Vc
end

section
namespace Go.Vc
open Go.Proofs
set_option maxRecDepth 100000
set_option pp.maxSteps 400
set_option pp.deepTerms false
set_option linter.unusedSimpArgs false
set_option linter.unusedVariables false
theorem s_l3Plain (fs : List GateField) (n : Bs) : Spec P 188 [.d (lGateField fs), .d (.str n)] (.d (.bool (plainF fs n))) := by
  refine Spec.of_vc vcT vcM [.tmp 4] Tryz.func188 rfl rfl rfl rfl (fun hok => ?_)
  repeat refine And.intro rfl ?_
  refine Or.inl (Exists.intro _ (And.intro (s_l3Field _ _) ?_))
  repeat refine And.intro rfl ?_
  refine And.intro (fun h => ?_) (fun h => ?_)
  · obtain ⟨j, hj, e, _⟩ := idx_pos h
    repeat refine And.intro rfl ?_
    refine ix_atw (e := GateField.e) (xs := fs) (hj) (e) rfl ?_
    repeat refine And.intro rfl ?_
    refine bd ?_
    rw [plain_pos hj h e]
  · refine bd ?_
    rw [plain_neg h]
/-- the closure of mendOk, called there -/
theorem i_mendPlain (fs : List GateField) (m : GateMend) (n : Bs) : HSpec P 197 [.d (.str n), .ptr 0 0] ⟨[(1, .cells 141 (m.e.map .d)), (0, .cells 137 [.d (lGateField fs)])], 2, 0⟩ (.d (.bool (plainF fs n)))
    ⟨[(1, .cells 141 (m.e.map .d)), (0, .cells 137 [.d (lGateField fs)])], 2, 0⟩ := by
  refine HSpec.of_vc vcT vcM [.tmp 3] Tryz.func197 rfl rfl rfl rfl rfl (fun hok => ?_)
  repeat refine And.intro rfl ?_
  refine Or.inl (Exists.intro _ (And.intro (i_placeOf _ _) ?_))
  repeat refine And.intro rfl ?_
  refine And.intro (fun h => ?_) (fun h => ?_)
  · obtain ⟨j, hj, e, _⟩ := idx_pos h
    repeat refine And.intro rfl ?_
    refine ix_atw (e := GateField.e) (xs := fs) (hj) (e) rfl ?_
    repeat refine And.intro rfl ?_
    refine And.intro (bd ?_) (And.intro rfl ⟨rfl, rfl, trivial, ⟨rfl, rfl, trivial⟩, ⟨rfl, rfl, trivial⟩⟩)
    rw [plain_pos hj h e]
  · refine And.intro (bd ?_) (And.intro rfl ⟨rfl, rfl, trivial, ⟨rfl, rfl, trivial⟩, ⟨rfl, rfl, trivial⟩⟩)
    rw [plain_neg h]
theorem b_tt : (true == true) = true := rfl
theorem b_ff : (false == false) = true := rfl
theorem b_tf : (true == false) = false := rfl
theorem b_ft : (false == true) = false := rfl
theorem neg_lt {k : Int} (h : decide (k ≥ 0) = true) : decide (k < 0) = false := by
  have := of_decide_eq_true h
  exact decide_eq_false (by omega)
theorem neg_ge {k : Int} (h : decide (k ≥ 0) = false) : decide (k < 0) = true := by
  have := of_decide_eq_false h
  exact decide_eq_true (by omega)
theorem mendF_no {fs : List GateField} {m : GateMend} (h : decide (idx (·.name == m.field) fs ≥ 0) = false) : mendF fs m = false := by
  unfold mendF
  rw [plain_neg h]; rfl
theorem mendF_yes {fs : List GateField} {m : GateMend} {j : Nat} (hj : j < fs.length) (e : idx (·.name == m.field) fs = (j : Int)) : mendF fs m = ((plainF fs m.field && ((m.when_ == [] || plainF fs m.when_) && (m.from_ == [] || plainF fs m.from_))) &&
  (!((m.when_ == m.field) || ((m.from_ == m.field) || ((m.when_ == [] && !(m.is_ == [])) || ((m.put == []) == (m.from_ == []))))) &&
   (m.put == [] || fitsF fs[j] m.put))) := by
  unfold mendF
  rw [e, Int.toNat_natCast, List.getElem?_eq_getElem hj]
theorem plain_field {fs : List GateField} {n : Bs} (h : plainF fs n = true) : decide (idx (·.name == n) fs ≥ 0) = true := by
  unfold plainF at h
  exact (Bool.and_eq_true_iff.1 h).1
set_option maxHeartbeats 4000000 in
theorem s_l3MendOk (xs : List GateShape) (m : GateMend) : Spec P 149 [.d (lGateShape xs), st m.e] (.d (.bool (mendOkF xs m))) := by
  refine Spec.of_vc vcT vcM [.tmp 4] Tryz.func149 rfl rfl rfl rfl (fun hok => ?_)
  repeat refine And.intro rfl ?_
  refine Or.inl (Exists.intro _ (And.intro (s_l1Shape _ _) ?_))
  cases h : decide (idx (·.kind == m.kind) xs ≥ 0) with
  | false =>
    refine And.intro (fun _ => ?_) (fun h' => absurd h' (by rw [neg_ge h]; simp))
    refine bd ?_
    unfold mendOkF
    split <;> simp only [h, Bool.false_and]
  | true =>
    obtain ⟨j, hj, e, _⟩ := idx_pos h
    refine And.intro (fun h' => absurd h' (by rw [neg_lt h]; simp)) (fun _ => ?_)
    repeat refine And.intro rfl ?_
    refine ix_atw (e := GateShape.e) (xs := xs) (hj) (e) rfl ?_
    repeat refine And.intro rfl ?_
    have em : mendOkF xs m = mendF xs[j].fields m := by
      unfold mendOkF
      rw [e, Int.toNat_natCast, List.getElem?_eq_getElem hj]
      have : decide ((j : Int) ≥ 0) = true := decide_eq_true (by omega)
      simp only [this, Bool.true_and]
    rw [em]
    cases hp : decide (idx (fun x : GateField => x.name == m.field) (xs[j]'hj).fields ≥ 0) with
    | false =>
      rw [mendF_no hp]
      have hp' := plain_neg hp
      repeat' first
        | refine And.intro rfl ?_
        | refine And.intro (fun h => ?_) (fun h => ?_)
        | refine Or.inl (Exists.intro _ (And.intro (s_l3Plain _ _) ?_))
      all_goals first
        | rfl
        | (exfalso; simp_all; done)
    | true =>
      obtain ⟨j2, hj2, e2, _⟩ := idx_pos hp
      rw [mendF_yes hj2 e2]
      repeat' first
        | refine And.intro rfl ?_
        | refine And.intro (fun h => ?_) (fun h => ?_)
        | refine Or.inl (Exists.intro _ (And.intro (s_l3Plain _ _) ?_))
        | refine Or.inl (Exists.intro _ (And.intro (s_l3Field _ _) ?_))
        | refine Or.inl (Exists.intro _ (And.intro (s_GateFits _ _) ?_))
        | refine And.intro (by kernel_rfl) ?_
        | refine ix_atw (e := GateField.e) (xs := (xs[j]'hj).fields) hj2 e2 rfl ?_
      all_goals (refine bd ?_; (try simp only [Bool.not_eq_true', Bool.not_eq_false'] at *); first | (simp only [*, b_tt, b_ff, b_tf, b_ft, Bool.false_or, Bool.true_or, Bool.or_false, Bool.or_true, Bool.and_true, Bool.true_and, Bool.and_false, Bool.false_and, Bool.not_true, Bool.not_false, Bool.not_not, cond_true, cond_false]; done) | (cases hx : (m.put == []) <;> cases hy : (m.from_ == []) <;> simp only [hx, hy, b_tt, b_ff, b_tf, b_ft, reduceCtorEq] at * <;> first | (simp only [*, b_tt, b_ff, b_tf, b_ft, Bool.false_or, Bool.true_or, Bool.or_false, Bool.or_true, Bool.and_true, Bool.true_and, Bool.and_false, Bool.false_and, Bool.not_true, Bool.not_false, Bool.not_not, cond_true, cond_false]; done) | (simp_all; done)))
set_option maxHeartbeats 4000000 in
theorem i_mendOk (fs : List GateField) (m : GateMend) : Spec P 162 [.d (lGateField fs), st m.e] (.d (.bool (mendF fs m))) := by
    refine Spec.of_vc vcT vcM [.tmp 4] Tryz.func162 rfl rfl rfl rfl (fun hok => ?_)
    cases hp : decide (idx (fun x : GateField => x.name == m.field) fs ≥ 0) with
    | false =>
      rw [mendF_no hp]
      have hp' := plain_neg hp
      repeat' first
        | refine And.intro rfl ?_
        | refine And.intro (fun h => ?_) (fun h => ?_)
        | refine Or.inr (Or.inl (Exists.intro _ (Exists.intro _ (And.intro (i_mendPlain fs m _) ?_))))
      all_goals first
        | rfl
        | (exfalso; simp_all; done)
    | true =>
      obtain ⟨j2, hj2, e2, _⟩ := idx_pos hp
      rw [mendF_yes hj2 e2]
      repeat' first
        | refine And.intro rfl ?_
        | refine And.intro (fun h => ?_) (fun h => ?_)
        | refine Or.inr (Or.inl (Exists.intro _ (Exists.intro _ (And.intro (i_mendPlain fs m _) ?_))))
        | refine Or.inl (Exists.intro _ (And.intro (i_placeOf _ _) ?_))
        | refine Or.inl (Exists.intro _ (And.intro (i_GateFits _ _) ?_))
        | refine And.intro (by kernel_rfl) ?_
        | refine ix_atw (e := GateField.e) (xs := fs) hj2 e2 rfl ?_
      all_goals (refine bd ?_; (try simp only [Bool.not_eq_true', Bool.not_eq_false'] at *); first | (simp only [*, b_tt, b_ff, b_tf, b_ft, Bool.false_or, Bool.true_or, Bool.or_false, Bool.or_true, Bool.and_true, Bool.true_and, Bool.and_false, Bool.false_and, Bool.not_true, Bool.not_false, Bool.not_not, cond_true, cond_false]; done) | (cases hx : (m.put == []) <;> cases hy : (m.from_ == []) <;> simp only [hx, hy, b_tt, b_ff, b_tf, b_ft, reduceCtorEq] at * <;> first | (simp only [*, b_tt, b_ff, b_tf, b_ft, Bool.false_or, Bool.true_or, Bool.or_false, Bool.or_true, Bool.and_true, Bool.true_and, Bool.and_false, Bool.false_and, Bool.not_true, Bool.not_false, Bool.not_not, cond_true, cond_false]; done) | (simp_all; done)))
end Go.Vc
end

section
namespace Go.Vc
open Go.Proofs
set_option maxRecDepth 100000
set_option pp.maxSteps 400
set_option pp.deepTerms false
set_option linter.unusedSimpArgs false
set_option linter.unusedVariables false
/-- the team over a team -/
def overF (n : Bs) : List GateTeam → Bs
  | [] => []
  | t :: ts => bif t.name == n then t.over else overF n ts
theorem overF_step {n : Bs} {xs : List GateTeam} {i : Nat} (h : i < xs.length) : overF n (xs.drop i) = bif xs[i].name == n then xs[i].over else overF n (xs.drop (i + 1)) := by
  rw [List.drop_eq_getElem_cons h]; rfl
theorem overF_end {n : Bs} {xs : List GateTeam} {i : Nat} (h : xs.length ≤ i) : overF n (xs.drop i) = [] := by
  rw [List.drop_of_length_le h]; rfl
theorem s_l4Over (xs : List GateTeam) (s : Bs) : Spec P 144 [.d (lGateTeam xs), .d (.str s)] (.d (.str (overF s xs))) := by
  refine Spec.of_vc vcT vcM [.tmp 4] Tryz.func144 rfl rfl rfl rfl (fun hok => ?_)
  have hs : xs.length ≤ big := len_map hok.1.1
  repeat refine And.intro rfl ?_
  refine ⟨fun m l h => ∃ (i : Nat) , m = xs.length - i ∧ i ≤ xs.length ∧ (overF s xs = overF s (xs.drop i)) ∧ l = [(0, .d (lGateTeam xs)), (1, .d (.str s)), (5, .d (.int .i64 i))] ∧ h = hp0,
    ⟨_, _, _, ⟨0, rfl, Nat.zero_le _, rfl, rfl, rfl⟩, rfl, rfl, ⟨rfl, rfl, rfl, trivial⟩, trivial, trivial⟩, ?_⟩
  rintro m l hh ⟨i, rfl, hi, hr, rfl, rfl⟩
  repeat refine And.intro rfl ?_
  refine And.intro (fun h1 => ?_) (fun h1 => ?_)
  · have hlt : i < xs.length := lt_map h1
    repeat refine And.intro rfl ?_
    refine ix_at (e := GateTeam.e) (xs := xs) (hlt) rfl ?_
    repeat refine And.intro rfl ?_
    rw [overF_step hlt] at hr
    repeat refine And.intro rfl ?_
    refine And.intro (fun h2 => ?_) (fun h2 => ?_)
    · repeat refine And.intro rfl ?_
      refine ix_at (e := GateTeam.e) (xs := xs) (hlt) rfl ?_
      repeat refine And.intro rfl ?_
      refine sd ?_
      rw [hr, h2]; rfl
    · repeat refine And.intro rfl ?_
      exact ⟨_, _, _, ⟨i + 1, rfl, hlt, by rw [hr, h2]; rfl, rfl, rfl⟩, by omega, rfl, rfl, ⟨rfl, rfl, nd (wrap_succ hlt hs), trivial⟩, trivial, trivial⟩
  · refine sd ?_
    rw [hr, overF_end (ge_map h1)]
theorem s_l4Team (xs : List GateTeam) (s : Bs) : Spec P 107 [.d (lGateTeam xs), .d (.str s)] (.d (.bool (xs.any (·.name == s)))) := by
  refine Spec.of_vc vcT vcM [.tmp 4] Tryz.func107 rfl rfl rfl rfl (fun hok => ?_)
  have hs : xs.length ≤ big := len_map hok.1.1
  repeat refine And.intro rfl ?_
  refine ⟨fun m l h => ∃ (i : Nat) , m = xs.length - i ∧ i ≤ xs.length ∧ (xs.any (·.name == s) = (xs.drop i).any (·.name == s)) ∧ l = [(0, .d (lGateTeam xs)), (1, .d (.str s)), (5, .d (.int .i64 i))] ∧ h = hp0,
    ⟨_, _, _, ⟨0, rfl, Nat.zero_le _, rfl, rfl, rfl⟩, rfl, rfl, ⟨rfl, rfl, rfl, trivial⟩, trivial, trivial⟩, ?_⟩
  rintro m l hh ⟨i, rfl, hi, hr, rfl, rfl⟩
  repeat refine And.intro rfl ?_
  refine And.intro (fun h1 => ?_) (fun h1 => ?_)
  · have hlt : i < xs.length := lt_map h1
    repeat refine And.intro rfl ?_
    refine ix_at (e := GateTeam.e) (xs := xs) (hlt) rfl ?_
    repeat refine And.intro rfl ?_
    rw [any_step hlt] at hr
    repeat refine And.intro rfl ?_
    refine And.intro (fun h2 => ?_) (fun h2 => ?_)
    · refine bd ?_
      rw [hr, h2]; rfl
    · repeat refine And.intro rfl ?_
      exact ⟨_, _, _, ⟨i + 1, rfl, hlt, by rw [hr, h2]; rfl, rfl, rfl⟩, by omega, rfl, rfl, ⟨rfl, rfl, nd (wrap_succ hlt hs), trivial⟩, trivial, trivial⟩
  · refine bd ?_
    rw [hr, any_end (ge_map h1)]
/-! ### chains of teams -/
def upN (xs : List GateTeam) : Nat → Bs → Bs
  | 0, a => a
  | k + 1, a => bif a == [] then a else upN xs k (overF a xs)
theorem upN_nil (xs : List GateTeam) : ∀ k, upN xs k [] = []
  | 0 => rfl
  | _ + 1 => rfl
def teamsOk (xs : List GateTeam) : Bool := !decide ((xs.length : Int) > 12) &&
  ((ascK (·.name) none xs && xs.all (fun t => t.over == [] || xs.any (·.name == t.over))) && xs.all (fun t => upN xs 4 t.over == []))
theorem overF_idx : ∀ {xs : List GateTeam} {n : Bs} {k j : Nat}, idxBy (·.name == n) xs k = ((k + j : Nat) : Int) → ∃ h : j < xs.length, overF n xs = xs[j].over
  | [], n, k, j, h => by simp only [idxBy] at h; omega
  | x :: xs, n, k, j, h => by
    simp only [idxBy] at h
    cases hx : x.name == n with
    | true =>
      rw [hx] at h
      simp only [cond_true] at h
      obtain rfl : j = 0 := by omega
      exact ⟨by simp, by simp [overF, hx]⟩
    | false =>
      rw [hx] at h
      simp only [cond_false] at h
      cases j with
      | zero =>
        rcases idxBy_spec (p := fun t : GateTeam => t.name == n) xs (k + 1) with ⟨h1, _⟩ | ⟨j, _, h1, _⟩
        · rw [h1] at h; omega
        · rw [h1] at h; omega
      | succ j =>
        obtain ⟨h1, h2⟩ := overF_idx (n := n) (k := k + 1) (j := j) (by rw [h]; congr 1; omega)
        exact ⟨by simp; omega, by simp only [overF, hx, cond_false, h2, List.getElem_cons_succ]⟩
/-! ### the order of texts -/
theorem bl_irr : ∀ x : Bs, Op.bytesLess x x = false
  | [] => rfl
  | a :: x => by
    simp only [Op.bytesLess, bl_irr x, Bool.and_false, Bool.or_false]
    exact decide_eq_false (by rw [UInt8.lt_iff_toNat_lt]; omega)
theorem bl_trans : ∀ {x y z : Bs}, Op.bytesLess x y = true → Op.bytesLess y z = true → Op.bytesLess x z = true
  | _, _, [], _, h => by cases ‹Bs› <;> simp [Op.bytesLess] at h
  | _, [], _ :: _, h, _ => by cases ‹Bs› <;> simp [Op.bytesLess] at h
  | [], _ :: _, _ :: _, _, _ => rfl
  | a :: x, b :: y, c :: z, h1, h2 => by
    simp only [Op.bytesLess, Bool.or_eq_true, Bool.and_eq_true, decide_eq_true_eq, beq_iff_eq, UInt8.lt_iff_toNat_lt] at h1 h2 ⊢
    rcases h1 with h1 | ⟨rfl, h1⟩
    · rcases h2 with h2 | ⟨rfl, h2⟩
      · exact .inl (by omega)
      · exact .inl h1
    · rcases h2 with h2 | ⟨rfl, h2⟩
      · exact .inl h2
      · exact .inr ⟨rfl, bl_trans h1 h2⟩
theorem asc_head {α : Type} {key : α → Bs} : ∀ {xs : List α} {q : Bs}, ascK key (some q) xs = true → ∀ y ∈ xs, Op.bytesLess q (key y) = true
  | [], _, _, y, hy => by cases hy
  | x :: xs, q, h, y, hy => by
    simp only [ascK, lessO, Bool.and_eq_true] at h
    rcases List.mem_cons.1 hy with rfl | hy
    · exact h.1.2
    · exact bl_trans h.1.2 (asc_head h.2 y hy)
theorem overF_asc : ∀ {xs : List GateTeam} {p : Option Bs}, ascK (·.name) p xs = true → ∀ t ∈ xs, overF t.name xs = t.over
  | [], _, _, t, ht => by cases ht
  | x :: xs, p, h, t, ht => by
    simp only [ascK, Bool.and_eq_true] at h
    simp only [overF]
    rcases List.mem_cons.1 ht with rfl | ht
    · simp
    · have hl := asc_head h.2 t ht
      have : (x.name == t.name) = false := by
        cases e : x.name == t.name with
        | false => rfl
        | true =>
          have := beq_iff_eq.1 e
          rw [this, bl_irr] at hl
          cases hl
      rw [this]
      exact overF_asc h.2 t ht
end Go.Vc
end

section
namespace Go.Vc
open Go.Proofs
set_option maxRecDepth 100000
set_option pp.maxSteps 400
set_option pp.deepTerms false
set_option linter.unusedSimpArgs false
set_option linter.unusedVariables false
def overOk (xs : List GateTeam) (t : GateTeam) : Bool := t.over == [] || xs.any (·.name == t.over)
theorem idx_lt {α : Type} {p : α → Bool} {xs : List α} : decide (idx p xs < 0) = !xs.any p := by
  rw [← idx_any]
  by_cases h : idx p xs ≥ 0
  · rw [decide_eq_true h, decide_eq_false (by omega)]; rfl
  · rw [decide_eq_false h, decide_eq_true (by omega)]; rfl
theorem i_GateTeamsOk (xs : List GateTeam) : Spec P 122 [.d (lGateTeam xs)] (.d (.bool (teamsOk xs))) := by
  refine Spec.of_vc vcT vcM [.tmp 2] Tryz.func122 rfl rfl rfl rfl (fun hok => ?_)
  have hs : xs.length ≤ big := len_map hok.1.1
  repeat refine And.intro rfl ?_
  refine And.intro (fun h0 => ?_) (fun h0 => ?_)
  · refine bd ?_
    rw [List.length_map] at h0
    simp only [teamsOk, h0]; rfl
  rw [List.length_map] at h0
  have e : teamsOk xs = ((ascK (·.name) none xs && xs.all (overOk xs)) && xs.all (fun t => upN xs 4 t.over == [])) := by simp only [teamsOk, h0]; rfl
  rw [e]
  repeat refine And.intro rfl ?_
  refine ⟨fun m l h => ∃ (i : Nat) , m = xs.length - i ∧ i ≤ xs.length ∧ ((ascK (·.name) none xs && xs.all (overOk xs)) = (ascK (·.name) (prevK (·.name) xs i) (xs.drop i) && (xs.drop i).all (overOk xs))) ∧ l = [(0, .d (lGateTeam xs)), (12, .d (lGateTeam xs)), (13, .d (.int .i64 (xs.map GateTeam.e).length)), (14, .d (.int .i64 i))] ∧ h = hp0,
    ⟨_, _, _, ⟨0, rfl, Nat.zero_le _, rfl, rfl, rfl⟩, rfl, rfl, ⟨rfl, rfl, rfl, rfl, trivial⟩, trivial, trivial⟩, ?_⟩
  rintro m l hh ⟨i, rfl, hi, hr, rfl, rfl⟩
  repeat refine And.intro rfl ?_
  refine And.intro (fun h1 => ?_) (fun h1 => ?_)
  · have hlt : i < xs.length := lt_map h1
    repeat refine And.intro rfl ?_
    refine ix_at (e := GateTeam.e) (xs := xs) (hlt) rfl ?_
    repeat refine And.intro rfl ?_
    repeat refine And.intro rfl ?_
    refine And.intro (by kernel_rfl) ?_
    repeat refine And.intro rfl ?_
    repeat refine And.intro rfl ?_
    refine Or.inl (Exists.intro _ (And.intro (i_isName _) ?_))
    repeat refine And.intro rfl ?_
    refine And.intro (fun h2 => ?_) (fun h2 => ?_)
    · repeat refine And.intro rfl ?_
      refine And.intro (fun h3 => ?_) (fun h3 => ?_)
      · have h0' := gt0 h3
        repeat refine And.intro rfl ?_
        refine ix_atw (e := GateTeam.e) (xs := xs) ((show i - 1 < xs.length by omega)) (wrap_pred h0' hlt hs) rfl ?_
        repeat refine And.intro rfl ?_
        repeat refine And.intro rfl ?_
        refine And.intro (fun h4 => ?_) (fun h4 => ?_)
        · have ha := asc_ok (key := fun s : GateTeam => s.name) hlt h2 (.inr ⟨h0', h4⟩)
          repeat refine And.intro rfl ?_
          refine And.intro (fun h5 => ?_) (fun h5 => ?_)
          · repeat refine And.intro rfl ?_
            refine Or.inl (Exists.intro _ (And.intro (i_teamOf xs (xs[i]'hlt).over) ?_))
            repeat refine And.intro rfl ?_
            refine And.intro (fun h6 => ?_) (fun h6 => ?_)
            · refine bd ?_
              rw [idx_lt] at h6
              simp only [Bool.not_eq_true', Bool.not_eq_false', cond_true, cond_false] at h5 h6
              rw [hr, all_step hlt, show overOk xs (xs[i]'hlt) = false from by simp only [overOk, h5, h6, Bool.or_false]]
              simp only [Bool.false_and, Bool.and_false]
            · rw [idx_lt] at h6
              simp only [Bool.not_eq_true', Bool.not_eq_false', cond_true, cond_false] at h5 h6
              repeat refine And.intro rfl ?_
              exact ⟨_, _, _, ⟨i + 1, rfl, hlt, by rw [hr, ha, all_step hlt, show overOk xs (xs[i]'hlt) = true from by simp only [overOk, h5, h6, Bool.false_or]]; rfl, rfl, rfl⟩, by omega, rfl, rfl, ⟨rfl, rfl, rfl, nd (wrap_succ hlt hs), trivial⟩, trivial, trivial⟩
          · repeat refine And.intro rfl ?_
            refine And.intro (fun h => absurd h (by simp)) (fun _ => ?_)
            simp only [Bool.not_eq_true', Bool.not_eq_false'] at h5
            repeat refine And.intro rfl ?_
            exact ⟨_, _, _, ⟨i + 1, rfl, hlt, by rw [hr, ha, all_step hlt, show overOk xs (xs[i]'hlt) = true from by simp only [overOk, h5, Bool.true_or]]; rfl, rfl, rfl⟩, by omega, rfl, rfl, ⟨rfl, rfl, rfl, nd (wrap_succ hlt hs), trivial⟩, trivial, trivial⟩
        · repeat refine And.intro rfl ?_
          refine And.intro (fun _ => ?_) (fun h => absurd h (by simp))
          refine bd ?_
          rw [hr, ← asc_less (key := fun s : GateTeam => s.name) hlt h0' h4]; rfl
      · repeat refine And.intro rfl ?_
        refine And.intro (fun _ => ?_) (fun h => absurd h (by simp))
        have ha := asc_ok (key := fun s : GateTeam => s.name) hlt h2 (.inl (le0 h3))
        repeat refine And.intro rfl ?_
        refine And.intro (fun h5 => ?_) (fun h5 => ?_)
        · repeat refine And.intro rfl ?_
          refine Or.inl (Exists.intro _ (And.intro (i_teamOf xs (xs[i]'hlt).over) ?_))
          repeat refine And.intro rfl ?_
          refine And.intro (fun h6 => ?_) (fun h6 => ?_)
          · refine bd ?_
            rw [idx_lt] at h6
            simp only [Bool.not_eq_true', Bool.not_eq_false', cond_true, cond_false] at h5 h6
            rw [hr, all_step hlt, show overOk xs (xs[i]'hlt) = false from by simp only [overOk, h5, h6, Bool.or_false]]
            simp only [Bool.false_and, Bool.and_false]
          · rw [idx_lt] at h6
            simp only [Bool.not_eq_true', Bool.not_eq_false', cond_true, cond_false] at h5 h6
            repeat refine And.intro rfl ?_
            exact ⟨_, _, _, ⟨i + 1, rfl, hlt, by rw [hr, ha, all_step hlt, show overOk xs (xs[i]'hlt) = true from by simp only [overOk, h5, h6, Bool.false_or]]; rfl, rfl, rfl⟩, by omega, rfl, rfl, ⟨rfl, rfl, rfl, nd (wrap_succ hlt hs), trivial⟩, trivial, trivial⟩
        · repeat refine And.intro rfl ?_
          refine And.intro (fun h => absurd h (by simp)) (fun _ => ?_)
          simp only [Bool.not_eq_true', Bool.not_eq_false'] at h5
          repeat refine And.intro rfl ?_
          exact ⟨_, _, _, ⟨i + 1, rfl, hlt, by rw [hr, ha, all_step hlt, show overOk xs (xs[i]'hlt) = true from by simp only [overOk, h5, Bool.true_or]]; rfl, rfl, rfl⟩, by omega, rfl, rfl, ⟨rfl, rfl, rfl, nd (wrap_succ hlt hs), trivial⟩, trivial, trivial⟩
    · repeat refine And.intro rfl ?_
      refine And.intro (fun h => absurd h (by simp)) (fun _ => ?_)
      repeat refine And.intro rfl ?_
      refine And.intro (fun _ => ?_) (fun h => absurd h (by simp))
      refine bd ?_
      rw [hr, ← asc_name (key := fun s : GateTeam => s.name) hlt h2]; rfl
  · rw [asc_end (ge_map h1), all_end (ge_map h1)] at hr
    rw [hr]
    have hb := Bool.and_eq_true_iff.1 hr
    have hin : ∀ t ∈ xs, t.over = [] ∨ xs.any (·.name == t.over) = true := fun t ht => by
      have := List.all_eq_true.1 hb.2 t ht
      simpa [overOk] using this
    clear hr
    repeat refine And.intro rfl ?_
    refine ⟨fun m l h => ∃ (i : Nat) , m = xs.length - i ∧ i ≤ xs.length ∧ ((true && true && xs.all (fun t => upN xs 4 t.over == [])) = (xs.drop i).all (fun t => upN xs 4 t.over == [])) ∧ l = [(0, .d (lGateTeam xs)), (51, .d (lGateTeam xs)), (52, .d (.int .i64 (xs.map GateTeam.e).length)), (53, .d (.int .i64 i))] ∧ h = hp0,
      ⟨_, _, _, ⟨0, rfl, Nat.zero_le _, rfl, rfl, rfl⟩, rfl, rfl, ⟨rfl, rfl, rfl, rfl, trivial⟩, trivial, trivial⟩, ?_⟩
    rintro m l hh ⟨i, rfl, hi, hr, rfl, rfl⟩
    repeat refine And.intro rfl ?_
    refine And.intro (fun h7 => ?_) (fun h7 => ?_)
    · have hlt : i < xs.length := lt_map h7
      rw [all_step hlt] at hr
      repeat refine And.intro rfl ?_
      refine ix_at (e := GateTeam.e) (xs := xs) (hlt) rfl ?_
      repeat refine And.intro rfl ?_
      refine ⟨fun m l h => ∃ (c : Nat) (u : Bs), m = 4 - c ∧ c ≤ 4 ∧ upN xs 4 (xs[i]'hlt).over = upN xs (4 - c) u ∧ (u = [] ∨ xs.any (·.name == u) = true) ∧ l = [(0, .d (lGateTeam xs)), (7, .d (.int .i64 c)), (8, .d (.str u)), (51, .d (lGateTeam xs)), (52, .d (.int .i64 (xs.map GateTeam.e).length)), (53, .d (.int .i64 i))] ∧ h = hp0,
        ⟨_, _, _, ⟨0, _, rfl, Nat.zero_le _, rfl, hin _ (List.getElem_mem hlt), rfl, rfl⟩, rfl, rfl, ⟨rfl, rfl, rfl, rfl, rfl, rfl, trivial⟩, trivial, trivial⟩, ?_⟩
      rintro m l hh ⟨c, u, rfl, hc, hu, hv, rfl, rfl⟩
      repeat refine And.intro rfl ?_
      refine And.intro (fun h8 => ?_) (fun h8 => ?_)
      · have hne : (u == []) = false := by simpa using h8
        have hany : xs.any (·.name == u) = true := hv.resolve_left (by simpa using hne)
        repeat refine And.intro rfl ?_
        refine And.intro (fun h9 => ?_) (fun h9 => ?_)
        · refine bd ?_
          have hc4 : c = 4 := by
            have := of_decide_eq_true h9
            rw [IntKind.wrap_i64] at this
            omega
          subst hc4
          rw [hr, hu]
          simp only [Nat.sub_self, upN, hne, Bool.false_and]
        · have hc3 : c < 4 := by
            have := of_decide_eq_false h9
            rw [IntKind.wrap_i64] at this
            omega
          repeat refine And.intro rfl ?_
          refine Or.inl (Exists.intro _ (And.intro (i_teamOf xs u) ?_))
          obtain ⟨j, hj, ej, _⟩ := idx_pos (p := fun t : GateTeam => t.name == u) (xs := xs) (by rw [idx_any]; exact hany)
          obtain ⟨_, eo⟩ := overF_idx (n := u) (xs := xs) (k := 0) (j := j) (by rw [Nat.zero_add]; exact ej)
          repeat refine And.intro rfl ?_
          refine ix_atw (e := GateTeam.e) (xs := xs) (hj) (ej) rfl ?_
          repeat refine And.intro rfl ?_
          refine ⟨_, _, _, ⟨c + 1, _, rfl, hc3, ?_, ?_, rfl, rfl⟩, by omega, rfl, rfl, ⟨rfl, nd (wrap_succ hc3 (by decide)), rfl, rfl, rfl, rfl, trivial⟩, trivial, trivial⟩
          · rw [hu, show 4 - c = (4 - (c + 1)) + 1 from by omega]
            simp only [upN, hne, cond_false, eo]
          · exact hin _ (List.getElem_mem hj)
      · have hue : u = [] := by simpa using h8
        subst hue
        rw [upN_nil] at hu
        repeat refine And.intro rfl ?_
        exact ⟨_, _, _, ⟨i + 1, rfl, hlt, by rw [hr, hu]; rfl, rfl, rfl⟩, by omega, rfl, rfl, ⟨rfl, rfl, rfl, nd (wrap_succ hlt hs), trivial⟩, trivial, trivial⟩
    · refine bd ?_
      rw [hr, all_end (ge_map h7)]
end Go.Vc
end

section
namespace Go.Vc
open Go.Proofs
set_option maxRecDepth 100000
set_option pp.maxSteps 400
set_option pp.deepTerms false
set_option linter.unusedSimpArgs false
set_option linter.unusedVariables false
def stepOk (xs : List GateTeam) (t : GateTeam) : Bool := overOk xs t && upN xs 5 t.name == []
theorem asc_names {α : Type} {key : α → Bs} : ∀ {xs : List α} {p : Option Bs}, ascK key p xs = true → ∀ y ∈ xs, nameOk (key y) = true
  | [], _, _, y, hy => by cases hy
  | x :: xs, p, h, y, hy => by
    simp only [ascK, Bool.and_eq_true] at h
    rcases List.mem_cons.1 hy with rfl | hy
    · exact h.1.1
    · exact asc_names h.2 y hy
theorem teams_alt (xs : List GateTeam) (h0 : decide ((xs.length : Int) > 12) = false) : teamsOk xs = (ascK (·.name) none xs && xs.all (stepOk xs)) := by
  have e : teamsOk xs = ((ascK (·.name) none xs && xs.all (overOk xs)) && xs.all (fun t => upN xs 4 t.over == [])) := by simp only [teamsOk, h0]; rfl
  rw [e]
  cases ha : ascK (fun t : GateTeam => t.name) none xs with
  | false => rfl
  | true =>
    have hs : ∀ t ∈ xs, stepOk xs t = (overOk xs t && upN xs 4 t.over == []) := fun t ht => by
      have hn := asc_names ha t ht
      have : (t.name == []) = false := by
        cases e : t.name == [] with
        | false => rfl
        | true => rw [beq_iff_eq.1 e] at hn; cases hn
      simp only [stepOk, upN, this, cond_false, overF_asc ha t ht]
    simp only [Bool.true_and]
    rw [Bool.eq_iff_iff]
    simp only [Bool.and_eq_true, List.all_eq_true]
    constructor
    · intro h t ht
      rw [hs t ht, Bool.and_eq_true]
      exact ⟨h.1 t ht, h.2 t ht⟩
    · intro h
      exact ⟨fun t ht => (Bool.and_eq_true_iff.1 ((hs t ht) ▸ h t ht)).1, fun t ht => (Bool.and_eq_true_iff.1 ((hs t ht) ▸ h t ht)).2⟩
theorem s_GateTeamsOk (xs : List GateTeam) : Spec P 105 [.d (lGateTeam xs)] (.d (.bool (teamsOk xs))) := by
  refine Spec.of_vc vcT vcM [.tmp 2] Tryz.func105 rfl rfl rfl rfl (fun hok => ?_)
  have hs : xs.length ≤ big := len_map hok.1.1
  repeat refine And.intro rfl ?_
  refine And.intro (fun h0 => ?_) (fun h0 => ?_)
  · refine bd ?_
    rw [List.length_map] at h0
    simp only [teamsOk, h0]; rfl
  rw [List.length_map] at h0
  rw [teams_alt xs h0]
  repeat refine And.intro rfl ?_
  refine ⟨fun m l h => ∃ (i : Nat) , m = xs.length - i ∧ i ≤ xs.length ∧ ((ascK (·.name) none xs && xs.all (stepOk xs)) = (ascK (·.name) (prevK (·.name) xs i) (xs.drop i) && (xs.drop i).all (stepOk xs))) ∧ l = [(0, .d (lGateTeam xs)), (3, .d (.int .i64 i))] ∧ h = hp0,
    ⟨_, _, _, ⟨0, rfl, Nat.zero_le _, rfl, rfl, rfl⟩, rfl, rfl, ⟨rfl, rfl, trivial⟩, trivial, trivial⟩, ?_⟩
  rintro m l hh ⟨i, rfl, hi, hr, rfl, rfl⟩
  repeat refine And.intro rfl ?_
  refine And.intro (fun h1 => ?_) (fun h1 => ?_)
  · have hlt : i < xs.length := lt_map h1
    repeat refine And.intro rfl ?_
    refine ix_at (e := GateTeam.e) (xs := xs) (hlt) rfl ?_
    repeat refine And.intro rfl ?_
    repeat refine And.intro rfl ?_
    refine And.intro (by kernel_rfl) ?_
    repeat refine And.intro rfl ?_
    repeat refine And.intro rfl ?_
    refine Or.inl (Exists.intro _ (And.intro (s_l1NameOk _) ?_))
    repeat refine And.intro rfl ?_
    refine And.intro (fun h2 => ?_) (fun h2 => ?_)
    · repeat refine And.intro rfl ?_
      refine And.intro (fun h3 => ?_) (fun h3 => ?_)
      · have h0' := gt0 h3
        repeat refine And.intro rfl ?_
        refine ix_atw (e := GateTeam.e) (xs := xs) ((show i - 1 < xs.length by omega)) (wrap_pred h0' hlt hs) rfl ?_
        repeat refine And.intro rfl ?_
        repeat refine And.intro rfl ?_
        refine And.intro (fun h4 => ?_) (fun h4 => ?_)
        · have ha := asc_ok (key := fun s : GateTeam => s.name) hlt h2 (.inr ⟨h0', h4⟩)
          repeat refine And.intro rfl ?_
          refine And.intro (fun h5 => ?_) (fun h5 => ?_)
          · repeat refine And.intro rfl ?_
            refine Or.inl (Exists.intro _ (And.intro (s_l4Team xs (xs[i]'hlt).over) ?_))
            repeat refine And.intro rfl ?_
            refine And.intro (fun h6 => ?_) (fun h6 => ?_)
            · refine bd ?_
              simp only [Bool.not_eq_true', Bool.not_eq_false', cond_true, cond_false] at h5 h6
              rw [hr, all_step hlt, show stepOk xs (xs[i]'hlt) = false from by simp only [stepOk, overOk, h5, h6, Bool.or_false, Bool.false_and]]
              simp only [Bool.false_and, Bool.and_false]
            · simp only [Bool.not_eq_true', Bool.not_eq_false', cond_true, cond_false] at h5 h6
              have ho : overOk xs (xs[i]'hlt) = true := by simp only [overOk, h5, h6, Bool.false_or]
              rw [ha, all_step hlt] at hr
              refine ⟨fun m l h => ∃ (c : Nat) (u : Bs), m = 5 - c ∧ c ≤ 5 ∧ upN xs 5 (xs[i]'hlt).name = upN xs (5 - c) u ∧ l = [(0, .d (lGateTeam xs)), (3, .d (.int .i64 i)), (5, .d (.str u)), (6, .d (.int .i64 c))] ∧ h = hp0,
                ⟨_, _, _, ⟨0, _, rfl, Nat.zero_le _, rfl, rfl, rfl⟩, rfl, rfl, ⟨rfl, rfl, rfl, rfl, trivial⟩, trivial, trivial⟩, ?_⟩
              rintro m l hh ⟨c, u, rfl, hc, hu, rfl, rfl⟩
              repeat refine And.intro rfl ?_
              refine And.intro (fun h7 => ?_) (fun h7 => ?_)
              · have hc4 : c ≤ 4 := by have := of_decide_eq_true h7; omega
                repeat refine And.intro rfl ?_
                refine And.intro (fun h8 => ?_) (fun h8 => ?_)
                · have hne : (u == []) = false := by simpa using h8
                  repeat refine And.intro rfl ?_
                  refine Or.inl (Exists.intro _ (And.intro (s_l4Over xs u) ?_))
                  refine ⟨_, _, _, ⟨c + 1, _, rfl, by omega, ?_, rfl, rfl⟩, by omega, rfl, rfl, ⟨rfl, rfl, rfl, nd (wrap_succ (n := 5) (by omega) (by decide)), trivial⟩, trivial, trivial⟩
                  rw [hu, show 5 - c = (5 - (c + 1)) + 1 from by omega]
                  simp only [upN, hne, cond_false]
                · have hue : u = [] := by simpa using h8
                  subst hue
                  rw [upN_nil] at hu
                  repeat refine And.intro rfl ?_
                  refine And.intro (fun h => absurd h (by simp)) (fun _ => ?_)
                  repeat refine And.intro rfl ?_
                  exact ⟨_, _, _, ⟨i + 1, rfl, hlt, by rw [hr, stepOk, ho, hu]; rfl, rfl, rfl⟩, by omega, rfl, rfl, ⟨rfl, nd (wrap_succ hlt hs), trivial⟩, trivial, trivial⟩
              · have hc5 : c = 5 := by have := of_decide_eq_false h7; omega
                subst hc5
                replace hu : upN xs 5 (xs[i]'hlt).name = u := hu
                repeat refine And.intro rfl ?_
                refine And.intro (fun h9 => ?_) (fun h9 => ?_)
                · refine bd ?_
                  have hne : (u == []) = false := by simpa using h9
                  rw [hr, stepOk, hu, hne]; simp only [Bool.and_false, Bool.false_and]
                · have hue : u = [] := by simpa using h9
                  repeat refine And.intro rfl ?_
                  exact ⟨_, _, _, ⟨i + 1, rfl, hlt, by rw [hr, stepOk, ho, hu, hue]; rfl, rfl, rfl⟩, by omega, rfl, rfl, ⟨rfl, nd (wrap_succ hlt hs), trivial⟩, trivial, trivial⟩
          · repeat refine And.intro rfl ?_
            refine And.intro (fun h => absurd h (by simp)) (fun _ => ?_)
            simp only [Bool.not_eq_true', Bool.not_eq_false'] at h5
            have ho : overOk xs (xs[i]'hlt) = true := by simp only [overOk, h5, Bool.true_or]
            rw [ha, all_step hlt] at hr
            refine ⟨fun m l h => ∃ (c : Nat) (u : Bs), m = 5 - c ∧ c ≤ 5 ∧ upN xs 5 (xs[i]'hlt).name = upN xs (5 - c) u ∧ l = [(0, .d (lGateTeam xs)), (3, .d (.int .i64 i)), (5, .d (.str u)), (6, .d (.int .i64 c))] ∧ h = hp0,
              ⟨_, _, _, ⟨0, _, rfl, Nat.zero_le _, rfl, rfl, rfl⟩, rfl, rfl, ⟨rfl, rfl, rfl, rfl, trivial⟩, trivial, trivial⟩, ?_⟩
            rintro m l hh ⟨c, u, rfl, hc, hu, rfl, rfl⟩
            repeat refine And.intro rfl ?_
            refine And.intro (fun h7 => ?_) (fun h7 => ?_)
            · have hc4 : c ≤ 4 := by have := of_decide_eq_true h7; omega
              repeat refine And.intro rfl ?_
              refine And.intro (fun h8 => ?_) (fun h8 => ?_)
              · have hne : (u == []) = false := by simpa using h8
                repeat refine And.intro rfl ?_
                refine Or.inl (Exists.intro _ (And.intro (s_l4Over xs u) ?_))
                refine ⟨_, _, _, ⟨c + 1, _, rfl, by omega, ?_, rfl, rfl⟩, by omega, rfl, rfl, ⟨rfl, rfl, rfl, nd (wrap_succ (n := 5) (by omega) (by decide)), trivial⟩, trivial, trivial⟩
                rw [hu, show 5 - c = (5 - (c + 1)) + 1 from by omega]
                simp only [upN, hne, cond_false]
              · have hue : u = [] := by simpa using h8
                subst hue
                rw [upN_nil] at hu
                repeat refine And.intro rfl ?_
                refine And.intro (fun h => absurd h (by simp)) (fun _ => ?_)
                repeat refine And.intro rfl ?_
                exact ⟨_, _, _, ⟨i + 1, rfl, hlt, by rw [hr, stepOk, ho, hu]; rfl, rfl, rfl⟩, by omega, rfl, rfl, ⟨rfl, nd (wrap_succ hlt hs), trivial⟩, trivial, trivial⟩
            · have hc5 : c = 5 := by have := of_decide_eq_false h7; omega
              subst hc5
              replace hu : upN xs 5 (xs[i]'hlt).name = u := hu
              repeat refine And.intro rfl ?_
              refine And.intro (fun h9 => ?_) (fun h9 => ?_)
              · refine bd ?_
                have hne : (u == []) = false := by simpa using h9
                rw [hr, stepOk, hu, hne]; simp only [Bool.and_false, Bool.false_and]
              · have hue : u = [] := by simpa using h9
                repeat refine And.intro rfl ?_
                exact ⟨_, _, _, ⟨i + 1, rfl, hlt, by rw [hr, stepOk, ho, hu, hue]; rfl, rfl, rfl⟩, by omega, rfl, rfl, ⟨rfl, nd (wrap_succ hlt hs), trivial⟩, trivial, trivial⟩
        · repeat refine And.intro rfl ?_
          refine And.intro (fun _ => ?_) (fun h => absurd h (by simp))
          refine bd ?_
          rw [hr, ← asc_less (key := fun s : GateTeam => s.name) hlt h0' h4]; rfl
      · repeat refine And.intro rfl ?_
        refine And.intro (fun _ => ?_) (fun h => absurd h (by simp))
        have ha := asc_ok (key := fun s : GateTeam => s.name) hlt h2 (.inl (le0 h3))
        repeat refine And.intro rfl ?_
        refine And.intro (fun h5 => ?_) (fun h5 => ?_)
        · repeat refine And.intro rfl ?_
          refine Or.inl (Exists.intro _ (And.intro (s_l4Team xs (xs[i]'hlt).over) ?_))
          repeat refine And.intro rfl ?_
          refine And.intro (fun h6 => ?_) (fun h6 => ?_)
          · refine bd ?_
            simp only [Bool.not_eq_true', Bool.not_eq_false', cond_true, cond_false] at h5 h6
            rw [hr, all_step hlt, show stepOk xs (xs[i]'hlt) = false from by simp only [stepOk, overOk, h5, h6, Bool.or_false, Bool.false_and]]
            simp only [Bool.false_and, Bool.and_false]
          · simp only [Bool.not_eq_true', Bool.not_eq_false', cond_true, cond_false] at h5 h6
            have ho : overOk xs (xs[i]'hlt) = true := by simp only [overOk, h5, h6, Bool.false_or]
            rw [ha, all_step hlt] at hr
            refine ⟨fun m l h => ∃ (c : Nat) (u : Bs), m = 5 - c ∧ c ≤ 5 ∧ upN xs 5 (xs[i]'hlt).name = upN xs (5 - c) u ∧ l = [(0, .d (lGateTeam xs)), (3, .d (.int .i64 i)), (5, .d (.str u)), (6, .d (.int .i64 c))] ∧ h = hp0,
              ⟨_, _, _, ⟨0, _, rfl, Nat.zero_le _, rfl, rfl, rfl⟩, rfl, rfl, ⟨rfl, rfl, rfl, rfl, trivial⟩, trivial, trivial⟩, ?_⟩
            rintro m l hh ⟨c, u, rfl, hc, hu, rfl, rfl⟩
            repeat refine And.intro rfl ?_
            refine And.intro (fun h7 => ?_) (fun h7 => ?_)
            · have hc4 : c ≤ 4 := by have := of_decide_eq_true h7; omega
              repeat refine And.intro rfl ?_
              refine And.intro (fun h8 => ?_) (fun h8 => ?_)
              · have hne : (u == []) = false := by simpa using h8
                repeat refine And.intro rfl ?_
                refine Or.inl (Exists.intro _ (And.intro (s_l4Over xs u) ?_))
                refine ⟨_, _, _, ⟨c + 1, _, rfl, by omega, ?_, rfl, rfl⟩, by omega, rfl, rfl, ⟨rfl, rfl, rfl, nd (wrap_succ (n := 5) (by omega) (by decide)), trivial⟩, trivial, trivial⟩
                rw [hu, show 5 - c = (5 - (c + 1)) + 1 from by omega]
                simp only [upN, hne, cond_false]
              · have hue : u = [] := by simpa using h8
                subst hue
                rw [upN_nil] at hu
                repeat refine And.intro rfl ?_
                refine And.intro (fun h => absurd h (by simp)) (fun _ => ?_)
                repeat refine And.intro rfl ?_
                exact ⟨_, _, _, ⟨i + 1, rfl, hlt, by rw [hr, stepOk, ho, hu]; rfl, rfl, rfl⟩, by omega, rfl, rfl, ⟨rfl, nd (wrap_succ hlt hs), trivial⟩, trivial, trivial⟩
            · have hc5 : c = 5 := by have := of_decide_eq_false h7; omega
              subst hc5
              replace hu : upN xs 5 (xs[i]'hlt).name = u := hu
              repeat refine And.intro rfl ?_
              refine And.intro (fun h9 => ?_) (fun h9 => ?_)
              · refine bd ?_
                have hne : (u == []) = false := by simpa using h9
                rw [hr, stepOk, hu, hne]; simp only [Bool.and_false, Bool.false_and]
              · have hue : u = [] := by simpa using h9
                repeat refine And.intro rfl ?_
                exact ⟨_, _, _, ⟨i + 1, rfl, hlt, by rw [hr, stepOk, ho, hu, hue]; rfl, rfl, rfl⟩, by omega, rfl, rfl, ⟨rfl, nd (wrap_succ hlt hs), trivial⟩, trivial, trivial⟩
        · repeat refine And.intro rfl ?_
          refine And.intro (fun h => absurd h (by simp)) (fun _ => ?_)
          simp only [Bool.not_eq_true', Bool.not_eq_false'] at h5
          have ho : overOk xs (xs[i]'hlt) = true := by simp only [overOk, h5, Bool.true_or]
          rw [ha, all_step hlt] at hr
          refine ⟨fun m l h => ∃ (c : Nat) (u : Bs), m = 5 - c ∧ c ≤ 5 ∧ upN xs 5 (xs[i]'hlt).name = upN xs (5 - c) u ∧ l = [(0, .d (lGateTeam xs)), (3, .d (.int .i64 i)), (5, .d (.str u)), (6, .d (.int .i64 c))] ∧ h = hp0,
            ⟨_, _, _, ⟨0, _, rfl, Nat.zero_le _, rfl, rfl, rfl⟩, rfl, rfl, ⟨rfl, rfl, rfl, rfl, trivial⟩, trivial, trivial⟩, ?_⟩
          rintro m l hh ⟨c, u, rfl, hc, hu, rfl, rfl⟩
          repeat refine And.intro rfl ?_
          refine And.intro (fun h7 => ?_) (fun h7 => ?_)
          · have hc4 : c ≤ 4 := by have := of_decide_eq_true h7; omega
            repeat refine And.intro rfl ?_
            refine And.intro (fun h8 => ?_) (fun h8 => ?_)
            · have hne : (u == []) = false := by simpa using h8
              repeat refine And.intro rfl ?_
              refine Or.inl (Exists.intro _ (And.intro (s_l4Over xs u) ?_))
              refine ⟨_, _, _, ⟨c + 1, _, rfl, by omega, ?_, rfl, rfl⟩, by omega, rfl, rfl, ⟨rfl, rfl, rfl, nd (wrap_succ (n := 5) (by omega) (by decide)), trivial⟩, trivial, trivial⟩
              rw [hu, show 5 - c = (5 - (c + 1)) + 1 from by omega]
              simp only [upN, hne, cond_false]
            · have hue : u = [] := by simpa using h8
              subst hue
              rw [upN_nil] at hu
              repeat refine And.intro rfl ?_
              refine And.intro (fun h => absurd h (by simp)) (fun _ => ?_)
              repeat refine And.intro rfl ?_
              exact ⟨_, _, _, ⟨i + 1, rfl, hlt, by rw [hr, stepOk, ho, hu]; rfl, rfl, rfl⟩, by omega, rfl, rfl, ⟨rfl, nd (wrap_succ hlt hs), trivial⟩, trivial, trivial⟩
          · have hc5 : c = 5 := by have := of_decide_eq_false h7; omega
            subst hc5
            replace hu : upN xs 5 (xs[i]'hlt).name = u := hu
            repeat refine And.intro rfl ?_
            refine And.intro (fun h9 => ?_) (fun h9 => ?_)
            · refine bd ?_
              have hne : (u == []) = false := by simpa using h9
              rw [hr, stepOk, hu, hne]; simp only [Bool.and_false, Bool.false_and]
            · have hue : u = [] := by simpa using h9
              repeat refine And.intro rfl ?_
              exact ⟨_, _, _, ⟨i + 1, rfl, hlt, by rw [hr, stepOk, ho, hu, hue]; rfl, rfl, rfl⟩, by omega, rfl, rfl, ⟨rfl, nd (wrap_succ hlt hs), trivial⟩, trivial, trivial⟩
    · repeat refine And.intro rfl ?_
      refine And.intro (fun h => absurd h (by simp)) (fun _ => ?_)
      repeat refine And.intro rfl ?_
      refine And.intro (fun _ => ?_) (fun h => absurd h (by simp))
      refine bd ?_
      rw [hr, ← asc_name (key := fun s : GateTeam => s.name) hlt h2]; rfl
  · refine bd ?_
    rw [hr, asc_end (ge_map h1), all_end (ge_map h1)]; rfl
end Go.Vc
end

section
namespace Go.Vc
open Go.Proofs
set_option maxRecDepth 100000
set_option pp.maxSteps 400
set_option pp.deepTerms false
set_option linter.unusedSimpArgs false
set_option linter.unusedVariables false
def lessI : Option Int → Int → Bool
  | none, _ => true
  | some q, x => !decide (q ≥ x)
def vrb : Option Int → List Int → Bool
  | _, [] => true
  | p, x :: xs => (inR x 1 5 && lessI p x) && vrb (some x) xs
def prevI (xs : List Int) : Nat → Option Int
  | 0 => none
  | j + 1 => xs[j]?
section
variable {xs : List Int} {i : Nat}
theorem vrb_step (h : i < xs.length) : vrb (prevI xs i) (xs.drop i) = ((inR xs[i] 1 5 && lessI (prevI xs i) xs[i]) && vrb (prevI xs (i + 1)) (xs.drop (i + 1))) := by
  rw [List.drop_eq_getElem_cons h]
  simp only [vrb, prevI, List.getElem?_eq_getElem h]
theorem vrb_end {p : Option Int} (h : xs.length ≤ i) : vrb p (xs.drop i) = true := by
  rw [List.drop_of_length_le h]; rfl
theorem prevI_less (h : i < xs.length) (h0 : 0 < i) : lessI (prevI xs i) xs[i] = !decide (xs[i - 1]'(by omega) ≥ xs[i]) := by
  obtain ⟨j, rfl⟩ : ∃ j, i = j + 1 := ⟨i - 1, by omega⟩
  simp only [prevI, List.getElem?_eq_getElem (show j < xs.length by omega), lessI, Nat.add_sub_cancel]
end
def ruleOk (r : GateRule) : Bool := !((r.verbs.length : Int) == 0) && (!decide ((r.prefix_.length : Int) > 16) && ((r.kind == [] || nameOk r.kind) && ((r.team == [] || nameOk r.team) && (r.prefix_.all nmByte && vrb none r.verbs))))
theorem i_equalTexts (xs ys : List Bs) : Spec P 125 [.d (lS xs), .d (lS ys)] (.d (.bool (xs == ys))) := by
  refine Spec.of_vc vcT vcM [.tmp 4] Tryz.func125 rfl rfl rfl rfl (fun hok => ?_)
  have hs : xs.length ≤ big := len_map hok.1.1
  repeat refine And.intro rfl ?_
  refine And.intro (fun h0 => ?_) (fun h0 => ?_)
  · refine bd ?_
    rw [List.length_map, List.length_map] at h0
    cases e : xs == ys with
    | false => rfl
    | true => rw [beq_iff_eq.1 e] at h0; simp at h0
  · rw [List.length_map, List.length_map] at h0
    have hl : xs.length = ys.length := by simp at h0; omega
    repeat refine And.intro rfl ?_
    refine ⟨fun m l h => ∃ (i : Nat) , m = xs.length - i ∧ i ≤ xs.length ∧ ((xs == ys) = (xs.drop i == ys.drop i)) ∧ l = [(0, .d (lS xs)), (1, .d (lS ys)), (12, .d (.int .i64 (xs.map eB).length)), (13, .d (.int .i64 i))] ∧ h = hp0,
      ⟨_, _, _, ⟨0, rfl, Nat.zero_le _, rfl, rfl, rfl⟩, rfl, rfl, ⟨rfl, rfl, rfl, rfl, trivial⟩, trivial, trivial⟩, ?_⟩
    rintro m l hh ⟨i, rfl, hi, hr, rfl, rfl⟩
    repeat refine And.intro rfl ?_
    refine And.intro (fun h1 => ?_) (fun h1 => ?_)
    · have hlt : i < xs.length := lt_map h1
      have hlt' : i < ys.length := by omega
      rw [List.drop_eq_getElem_cons hlt, List.drop_eq_getElem_cons hlt', List.cons_beq_cons] at hr
      repeat refine And.intro rfl ?_
      refine And.intro (by kernel_rfl) ?_
      repeat refine And.intro rfl ?_
      repeat refine And.intro rfl ?_
      refine ix_at (e := eB) (xs := xs) (hlt) rfl ?_
      repeat refine And.intro rfl ?_
      repeat refine And.intro rfl ?_
      refine ix_at (e := eB) (xs := ys) (hlt') rfl ?_
      repeat refine And.intro rfl ?_
      repeat refine And.intro rfl ?_
      refine And.intro (fun h2 => ?_) (fun h2 => ?_)
      · refine bd ?_
        simp only [Bool.not_eq_true', Bool.not_eq_false'] at h2
        rw [hr, h2]; rfl
      · simp only [Bool.not_eq_true', Bool.not_eq_false'] at h2
        repeat refine And.intro rfl ?_
        exact ⟨_, _, _, ⟨i + 1, rfl, hlt, by rw [hr, h2]; rfl, rfl, rfl⟩, by omega, rfl, rfl, ⟨rfl, rfl, rfl, nd (wrap_succ hlt hs), trivial⟩, trivial, trivial⟩
    · refine bd ?_
      have hge := ge_map h1
      rw [hr, List.drop_of_length_le hge, List.drop_of_length_le (by omega)]; rfl
theorem i_sameRule (a b : GateRule) : Spec P 185 [st a.e, st b.e] (.d (.bool (a.verbs == b.verbs && (a.kind == b.kind && (a.team == b.team && a.prefix_ == b.prefix_))))) := by
  refine Spec.of_vc vcT vcM [.tmp 4] Tryz.func185 rfl rfl rfl rfl (fun hok => ?_)
  have hs : a.verbs.length ≤ big := by
    have := hok.1
    simp only [st, AV.ok, GateRule.e, List.map, okAs] at this
    exact len_map this.1.1
  repeat refine And.intro rfl ?_
  refine And.intro (fun h0 => ?_) (fun h0 => ?_)
  · simp only [List.length_map] at h0
    have hl : a.verbs.length = b.verbs.length := by simp at h0; omega
    repeat refine And.intro rfl ?_
    refine And.intro (fun h1 => ?_) (fun h1 => ?_)
    · repeat refine And.intro rfl ?_
      refine And.intro (fun h2 => ?_) (fun h2 => ?_)
      · repeat refine And.intro rfl ?_
        refine And.intro (fun h3 => ?_) (fun h3 => ?_)
        · refine bd ?_
          simp only [Bool.not_eq_true', Bool.not_eq_false'] at h1 h2 h3
          rw [h1, h2, h3]; simp only [Bool.and_false]
        · simp only [Bool.not_eq_true', Bool.not_eq_false'] at h1 h2 h3
          rw [h1, h2, h3, Bool.true_and, Bool.true_and, Bool.and_true]
          repeat refine And.intro rfl ?_
          refine ⟨fun m l h => ∃ (i : Nat) , m = a.verbs.length - i ∧ i ≤ a.verbs.length ∧ ((a.verbs == b.verbs) = (a.verbs.drop i == b.verbs.drop i)) ∧ l = [(2, .ptr 0 0), (3, .ptr 1 0), (36, .d (.int .i64 (a.verbs.map eN).length)), (37, .d (.int .i64 i))] ∧ h = ⟨[(1, .cells 103 (b.e.map .d)), (0, .cells 103 (a.e.map .d))], 2, 0⟩,
            ⟨_, _, _, ⟨0, rfl, Nat.zero_le _, rfl, rfl, rfl⟩, rfl, rfl, ⟨rfl, rfl, rfl, rfl, trivial⟩, ⟨rfl, rfl, trivial⟩, ⟨rfl, rfl, trivial⟩⟩, ?_⟩
          rintro m l hh ⟨i, rfl, hi, hr, rfl, rfl⟩
          repeat refine And.intro rfl ?_
          refine And.intro (fun h4 => ?_) (fun h4 => ?_)
          · have hlt : i < a.verbs.length := lt_map h4
            have hlt' : i < b.verbs.length := by omega
            rw [List.drop_eq_getElem_cons hlt, List.drop_eq_getElem_cons hlt', List.cons_beq_cons] at hr
            repeat refine And.intro rfl ?_
            refine And.intro (by kernel_rfl) ?_
            repeat refine And.intro rfl ?_
            repeat refine And.intro rfl ?_
            refine ix_at (e := eN) (xs := a.verbs) (hlt) rfl ?_
            repeat refine And.intro rfl ?_
            repeat refine And.intro rfl ?_
            refine ix_at (e := eN) (xs := b.verbs) (hlt') rfl ?_
            repeat refine And.intro rfl ?_
            repeat refine And.intro rfl ?_
            refine And.intro (fun h5 => ?_) (fun h5 => ?_)
            · refine bd ?_
              simp only [bne, Bool.not_eq_true', Bool.not_eq_false'] at h5
              rw [hr, h5]; rfl
            · simp only [bne, Bool.not_eq_true', Bool.not_eq_false'] at h5
              repeat refine And.intro rfl ?_
              exact ⟨_, _, _, ⟨i + 1, rfl, hlt, by rw [hr, h5]; rfl, rfl, rfl⟩, by omega, rfl, rfl, ⟨rfl, rfl, rfl, nd (wrap_succ hlt hs), trivial⟩, ⟨rfl, rfl, trivial⟩, ⟨rfl, rfl, trivial⟩⟩
          · refine bd ?_
            have hge := ge_map h4
            rw [hr, List.drop_of_length_le hge, List.drop_of_length_le (by omega)]; rfl
      · refine bd ?_
        simp only [Bool.not_eq_true', Bool.not_eq_false'] at h1 h2
        rw [h1, h2]; simp only [Bool.and_false, Bool.false_and]
    · refine bd ?_
      simp only [Bool.not_eq_true', Bool.not_eq_false'] at h1
      rw [h1]; simp only [Bool.and_false, Bool.false_and]
  · refine bd ?_
    simp only [List.length_map] at h0
    cases e : a.verbs == b.verbs with
    | false => rfl
    | true => rw [beq_iff_eq.1 e] at h0; simp at h0
end Go.Vc
end
