/- Part 8 of a proof: What a field's mends read; rows of fields: pure facts. Contracts: mends of the specification. Contracts: what a field's mends read (a closure), depth first (a closure that calls itself), rows of fields. Contracts: the walk depth first, a closure that calls itself. Contracts: rows of fields. Mended values: the order of the fields does not count, as long as each stands behind what it reads. No program, no memory. Contracts: mended objects. -/
import Derived.Test.YtpcmdecphigjaaaGreatDoorSaa
import Derived.Test.YtpcmdecphigjaaaGreatDoorSab
import Derived.Test.YtpcmdecphigjaaaGreatDoorSac
import Derived.Test.YtpcmdecphigjaaaGreatDoorSad
import Derived.Test.YtpcmdecphigjaaaGreatDoorSae
import Derived.Test.YtpcmdecphigjaaaGreatDoorSaf
import Derived.Test.YtpcmdecphigjaaaGreatDoorSag
section
namespace Go.Vc
set_option linter.unusedSimpArgs false
set_option linter.unusedVariables false
theorem asc_inj {α : Type} {key : α → Bs} : ∀ {xs : List α} {p : Option Bs}, ascK key p xs = true → ∀ a ∈ xs, ∀ b ∈ xs, key a = key b → a = b
  | [], _, _, a, ha, _, _, _ => by cases ha
  | x :: xs, p, h, a, ha, b, hb, e => by
    simp only [ascK, Bool.and_eq_true] at h
    rcases List.mem_cons.1 ha with rfl | ha'
    · rcases List.mem_cons.1 hb with rfl | hb'
      · rfl
      · have := asc_head h.2 b hb'
        rw [← e, bl_irr] at this; cases this
    · rcases List.mem_cons.1 hb with rfl | hb'
      · have := asc_head h.2 a ha'
        rw [e, bl_irr] at this; cases this
      · exact asc_inj h.2 a ha' b hb' e
def opt1 (s : Bs) : List Bs := bif s == [] then [] else [s]
def rd1 (k n : Bs) (m : GateMend) : List Bs := bif m.kind == k && m.field == n then opt1 m.when_ ++ opt1 m.from_ else []
/-- what the mends of a field read -/
def readsF (k : Bs) (ms : List GateMend) (n : Bs) : List Bs := (ms.map (rd1 k n)).flatten
def rdy (k f : Bs) (row : List Bs) (m : GateMend) : Bool :=
  !((m.kind == k && m.field == f) && ((!(m.when_ == []) && !row.any (· == m.when_)) || (!(m.from_ == []) && !row.any (· == m.from_))))
def readyF (k f : Bs) (row : List Bs) (ms : List GateMend) : Bool := ms.all (rdy k f row)
theorem any_contains {row : List Bs} {s : Bs} : row.any (· == s) = row.contains s := by
  rw [Bool.eq_iff_iff, List.any_eq_true, List.contains_iff_mem]
  constructor
  · rintro ⟨x, hx, e⟩; rw [beq_iff_eq] at e; exact e ▸ hx
  · intro h; exact ⟨s, h, BEq.rfl⟩
theorem opt1_all {s : Bs} {p : Bs → Bool} : (opt1 s).all p = !(!(s == []) && !p s) := by
  unfold opt1
  cases s == [] <;> simp
theorem rdy_all {k f : Bs} {row : List Bs} {m : GateMend} : rdy k f row m = (rd1 k f m).all row.contains := by
  unfold rdy rd1
  cases (m.kind == k && m.field == f) with
  | false => rfl
  | true =>
    simp only [cond_true, List.all_append, opt1_all, any_contains, Bool.true_and, Bool.not_or]
theorem all_flatten {p : Bs → Bool} : ∀ {l : List (List Bs)}, l.flatten.all p = l.all (·.all p)
  | [] => rfl
  | x :: l => by simp only [List.flatten_cons, List.all_append, List.all_cons, all_flatten]
theorem readyF_all {k f : Bs} {row : List Bs} {ms : List GateMend} : readyF k f row ms = (readsF k ms f).all row.contains := by
  unfold readyF readsF
  rw [all_flatten, List.all_map]
  congr 1
  funext m
  exact rdy_all
def namesF (s : GateShape) : List Bs := s.fields.map (·.name)
/-- may this field come next? -/
def candF (s : GateShape) (ms : List GateMend) (row : List Bs) (f : Bs) : Bool := !row.any (· == f) && readyF s.kind f row ms
def gr (s : GateShape) (ms : List GateMend) (n : Nat) : List Bs := greedy (readsF s.kind ms) (namesF s) n
def rowF (s : GateShape) (ms : List GateMend) : List Bs := gr s ms s.fields.length
theorem cand_eq {s : GateShape} {ms : List GateMend} {row : List Bs} : candF s ms row = fun f => !row.contains f && (readsF s.kind ms f).all row.contains := by
  funext f
  unfold candF
  rw [any_contains, readyF_all]
theorem gr_some {s : GateShape} {ms : List GateMend} {n : Nat} {f : Bs} (h : (namesF s).find? (candF s ms (gr s ms n)) = some f) : gr s ms (n + 1) = gr s ms n ++ [f] := by
  rw [cand_eq] at h
  show stepG _ _ _ = _
  unfold stepG
  unfold gr at h ⊢
  rw [h]
theorem gr_none {s : GateShape} {ms : List GateMend} {n : Nat} (h : (namesF s).find? (candF s ms (gr s ms n)) = none) : gr s ms (n + 1) = gr s ms n := by
  rw [cand_eq] at h
  show stepG _ _ _ = _
  unfold stepG
  unfold gr at h ⊢
  rw [h]
theorem gr_len (s : GateShape) (ms : List GateMend) (n : Nat) : (gr s ms n).length ≤ s.fields.length := by
  have g := greedy_good (readsF s.kind ms) (namesF s) n
  have := len_of_sub g.nd g.sub
  rw [namesF, List.length_map] at this
  exact this
theorem gr_le (s : GateShape) (ms : List GateMend) : ∀ n, (gr s ms n).length ≤ n
  | 0 => Nat.le_refl _
  | n + 1 => by
    have ih := gr_le s ms n
    cases h : (namesF s).find? (candF s ms (gr s ms n)) with
    | none => rw [gr_none h]; omega
    | some f => rw [gr_some h, List.length_append, List.length_singleton]; omega
theorem find_step {α : Type} {p : α → Bool} {xs : List α} {i : Nat} (h : i < xs.length) : (xs.drop i).find? p = bif p xs[i] then some xs[i] else (xs.drop (i + 1)).find? p := by
  rw [List.drop_eq_getElem_cons h, List.find?_cons]
  cases p xs[i] <;> rfl
/-- a row of what may come next, place by place -/
def nextF (s : GateShape) (ms : List GateMend) (row : List Bs) (l : List GateField) : Option Bs := (l.map (·.name)).find? (candF s ms row)
theorem nextF_step {s : GateShape} {ms : List GateMend} {row : List Bs} {xs : List GateField} {i : Nat} (h : i < xs.length) : nextF s ms row (xs.drop i) = bif candF s ms row xs[i].name then some xs[i].name else nextF s ms row (xs.drop (i + 1)) := by
  unfold nextF
  rw [List.drop_eq_getElem_cons h, List.map_cons, List.find?_cons]
  cases candF s ms row xs[i].name <;> rfl
theorem nextF_end {s : GateShape} {ms : List GateMend} {row : List Bs} {xs : List GateField} {i : Nat} (h : xs.length ≤ i) : nextF s ms row (xs.drop i) = none := by
  rw [List.drop_of_length_le h]; rfl
def mendsOk (shapes : List GateShape) (ms : List GateMend) : Bool :=
  shapesOk shapes && (!decide ((ms.length : Int) > 12) && (ms.all (mendOkF shapes) && shapes.all fun s => ((rowF s ms).length : Int) == (s.fields.length : Int)))
/-! ### names of fields are different; what is read is a field -/
theorem flds_nodup {kinds : List Bs} : ∀ {fs : List GateField} {pre : List Bs}, flds kinds pre fs = true → (fs.map (·.name)).Nodup ∧ ∀ x ∈ pre, x ∉ fs.map (·.name)
  | [], _, _ => ⟨List.nodup_nil, fun _ _ h => by cases h⟩
  | f :: fs, pre, h => by
    simp only [flds, Bool.and_eq_true, Bool.not_eq_true'] at h
    obtain ⟨h1, _, h3⟩ := h
    obtain ⟨g1, g2⟩ := flds_nodup h3
    rw [any_contains] at h1
    refine ⟨?_, fun x hx c => ?_⟩
    · rw [List.map_cons, List.nodup_cons]
      exact ⟨g2 f.name (List.mem_append.2 (.inr List.mem_cons_self)), g1⟩
    · rw [List.map_cons] at c
      rcases List.mem_cons.1 c with c | c
      · have : pre.contains f.name = true := List.contains_iff_mem.2 (c ▸ hx)
        rw [h1] at this; cases this
      · exact g2 x (List.mem_append.2 (.inl hx)) c
theorem shapes_nodup {xs : List GateShape} (h : shapesOk xs = true) {s : GateShape} (hs : s ∈ xs) : (namesF s).Nodup := by
  unfold shapesOk at h
  simp only [Bool.and_eq_true] at h
  have := List.all_eq_true.1 h.2.2 s hs
  unfold shapeOkF at this
  simp only [Bool.and_eq_true] at this
  exact (flds_nodup this.2).1
theorem shapes_inj {xs : List GateShape} (h : shapesOk xs = true) {a b : GateShape} (ha : a ∈ xs) (hb : b ∈ xs) (e : a.kind = b.kind) : a = b := by
  unfold shapesOk at h
  simp only [Bool.and_eq_true] at h
  exact asc_inj h.2.1 a ha b hb e
theorem plain_in {fs : List GateField} {n : Bs} (h : plainF fs n = true) : n ∈ fs.map (·.name) := by
  unfold plainF at h
  rw [Bool.and_eq_true, idx_any] at h
  obtain ⟨f, hf, e⟩ := List.any_eq_true.1 h.1
  rw [beq_iff_eq] at e
  exact List.mem_map.2 ⟨f, hf, e⟩
theorem opt1_mem {s y : Bs} (h : y ∈ opt1 s) : y = s ∧ (s == []) = false := by
  unfold opt1 at h
  cases e : s == [] with
  | true => rw [e] at h; cases h
  | false => rw [e] at h; exact ⟨List.mem_singleton.1 h, rfl⟩
theorem mend_at {xs : List GateShape} (h : shapesOk xs = true) {s : GateShape} (hs : s ∈ xs) {m : GateMend} (hm : mendOkF xs m = true) (e : m.kind = s.kind) : mendF s.fields m = true := by
  unfold mendOkF at hm
  split at hm
  · rename_i s' hq
    rw [Bool.and_eq_true] at hm
    obtain ⟨j, hj, h1, h2, _⟩ := idx_pos hm.1
    rw [h1, Int.toNat_natCast, List.getElem?_eq_getElem hj] at hq
    have e1 : s' = xs[j] := (Option.some.inj hq).symm
    have e2 : xs[j].kind = m.kind := by simpa using h2
    have : s' = s := shapes_inj h (e1 ▸ List.getElem_mem hj) hs (by rw [e1, e2, e])
    exact this ▸ hm.2
  · cases hm
theorem reads_in {xs : List GateShape} {ms : List GateMend} (h : shapesOk xs = true) (hm : ms.all (mendOkF xs) = true) {s : GateShape} (hs : s ∈ xs) : ∀ n, ∀ y ∈ readsF s.kind ms n, y ∈ namesF s := by
  intro n y hy
  unfold readsF at hy
  obtain ⟨l, hl, hy⟩ := List.mem_flatten.1 hy
  obtain ⟨m, hm1, rfl⟩ := List.mem_map.1 hl
  unfold rd1 at hy
  cases e : (m.kind == s.kind && m.field == n) with
  | false => rw [e] at hy; cases hy
  | true =>
    rw [e] at hy
    rw [Bool.and_eq_true, beq_iff_eq] at e
    have hf := mend_at h hs (List.all_eq_true.1 hm m hm1) e.1
    unfold mendF at hf
    simp only [Bool.and_eq_true, Bool.or_eq_true] at hf
    rcases List.mem_append.1 hy with hy | hy
    · obtain ⟨rfl, hne⟩ := opt1_mem hy
      rcases hf.1.2.1 with c | c
      · rw [hne] at c; cases c
      · exact plain_in c
    · obtain ⟨rfl, hne⟩ := opt1_mem hy
      rcases hf.1.2.2 with c | c
      · rw [hne] at c; cases c
      · exact plain_in c
end Go.Vc
end

section
namespace Go.Vc
open Go.Proofs
set_option maxRecDepth 100000
set_option pp.maxSteps 400
set_option pp.deepTerms false
set_option linter.unusedSimpArgs false
set_option linter.unusedVariables false
theorem s_l3Ready (ms : List GateMend) (k f : Bs) (row : List Bs) : Spec P 191 [.d (lGateMend ms), .d (.str k), .d (.str f), .d (lS row)] (.d (.bool (readyF k f row ms))) := by
  refine Spec.of_vc vcT vcM [.tmp 8] Tryz.func191 rfl rfl rfl rfl (fun hok => ?_)
  have hs : ms.length ≤ big := len_map hok.1.1
  repeat refine And.intro rfl ?_
  refine ⟨fun m l h => ∃ (i : Nat) , m = ms.length - i ∧ i ≤ ms.length ∧ (readyF k f row ms = (ms.drop i).all (rdy k f row)) ∧ l = [(0, .d (lGateMend ms)), (1, .d (.str k)), (2, .d (.str f)), (3, .d (lS row)), (9, .d (.int .i64 i))] ∧ h = hp0,
    ⟨_, _, _, ⟨0, rfl, Nat.zero_le _, rfl, rfl, rfl⟩, rfl, rfl, ⟨rfl, rfl, rfl, rfl, rfl, trivial⟩, trivial, trivial⟩, ?_⟩
  rintro m l hh ⟨i, rfl, hi, hr, rfl, rfl⟩
  repeat refine And.intro rfl ?_
  refine And.intro (fun h1 => ?_) (fun h1 => ?_)
  · have hlt : i < ms.length := lt_map h1
    rw [all_step hlt] at hr
    repeat refine And.intro rfl ?_
    refine ix_at (e := GateMend.e) (xs := ms) (hlt) rfl ?_
    repeat refine And.intro rfl ?_
    repeat' first
      | refine And.intro rfl ?_
      | refine And.intro (fun h => ?_) (fun h => ?_)
      | refine Or.inl (Exists.intro _ (And.intro (s_l1Has _ _) ?_))
    all_goals first
      | (refine bd ?_; (try simp only [Bool.not_eq_true', Bool.not_eq_false'] at *); rw [hr]; simp only [rdy, *, Bool.true_and, Bool.false_and, Bool.and_true, Bool.and_false, Bool.true_or, Bool.or_true, Bool.false_or, Bool.or_false, Bool.not_true, Bool.not_false]; done)
      | exact ⟨_, _, _, ⟨i + 1, rfl, hlt, (by (try simp only [Bool.not_eq_true', Bool.not_eq_false'] at *); rw [hr]; simp only [rdy, *, Bool.true_and, Bool.false_and, Bool.and_true, Bool.and_false, Bool.true_or, Bool.or_true, Bool.false_or, Bool.or_false, Bool.not_true, Bool.not_false]), rfl, rfl⟩, by omega, rfl, rfl, ⟨rfl, rfl, rfl, rfl, nd (wrap_succ hlt hs), trivial⟩, trivial, trivial⟩
  · refine bd ?_
    rw [hr, all_end (ge_map h1)]
theorem fg (s : GateShape) : (st s.e) = .agg [.d (.str s.kind), .d (lGateField s.fields)] := rfl
theorem s_l3Row (s : GateShape) (ms : List GateMend) : Spec P 150 [st s.e, .d (lGateMend ms)] (.d (lS (rowF s ms))) := by
  refine Spec.of_vc vcT vcM [.tmp 4] Tryz.func150 rfl rfl rfl rfl (fun hok => ?_)
  have hs : s.fields.length ≤ big := by
    have := hok.1
    simp only [st, AV.ok, GateShape.e, List.map, okAs] at this
    exact len_map this.2.1.1
  repeat refine And.intro rfl ?_
  refine ⟨fun m l h => ∃ (n : Nat) , m = s.fields.length - n ∧ n ≤ s.fields.length ∧ (True) ∧ l = [(1, .d (lGateMend ms)), (2, .ptr 0 0), (5, .own 1), (6, .d (.int .i64 n))] ∧ h = ⟨[(1, .row 9 1 ((gr s ms n).map eB)), (0, .cells 139 (s.e.map .d))], 2, 0⟩,
    ⟨_, _, _, ⟨0, rfl, Nat.zero_le _, trivial, rfl, rfl⟩, rfl, rfl, ⟨rfl, rfl, rfl, rfl, trivial⟩, ⟨rfl, rfl, trivial⟩, ⟨rfl, rfl, trivial⟩⟩, ?_⟩
  rintro m l hh ⟨n, rfl, hn, hr, rfl, rfl⟩
  repeat refine And.intro rfl ?_
  refine And.intro (fun h1 => ?_) (fun h1 => ?_)
  · have hlt0 : n < s.fields.length := lt_map h1
    repeat refine And.intro rfl ?_
    refine ⟨fun m l h => ∃ (i : Nat) , m = s.fields.length - i ∧ i ≤ s.fields.length ∧ (nextF s ms (gr s ms n) s.fields = nextF s ms (gr s ms n) (s.fields.drop i)) ∧ l = [(1, .d (lGateMend ms)), (2, .ptr 0 0), (5, .own 1), (6, .d (.int .i64 n)), (7, .d (.int .i64 i))] ∧ h = ⟨[(1, .row 9 1 ((gr s ms n).map eB)), (0, .cells 139 (s.e.map .d))], 2, 0⟩,
      ⟨_, _, _, ⟨0, rfl, Nat.zero_le _, rfl, rfl, rfl⟩, rfl, rfl, ⟨rfl, rfl, rfl, rfl, rfl, trivial⟩, ⟨rfl, rfl, trivial⟩, ⟨rfl, rfl, trivial⟩⟩, ?_⟩
    rintro m l hh ⟨i, rfl, hi, hr, rfl, rfl⟩
    repeat refine And.intro rfl ?_
    refine And.intro (fun h2 => ?_) (fun h2 => ?_)
    · have hlt : i < s.fields.length := lt_map h2
      repeat refine And.intro rfl ?_
      refine ix_at (e := GateField.e) (xs := s.fields) (hlt) rfl ?_
      repeat refine And.intro rfl ?_
      repeat refine And.intro rfl ?_
      refine Or.inl (Exists.intro _ (And.intro (s_l1Has _ _) ?_))
      repeat refine And.intro rfl ?_
      refine And.intro (fun h3 => ?_) (fun h3 => ?_)
      · simp only [Bool.not_eq_true', Bool.not_eq_false'] at h3
        repeat refine And.intro rfl ?_
        refine Or.inl (Exists.intro _ (And.intro (s_l3Ready _ _ _ _) ?_))
        repeat refine And.intro rfl ?_
        refine And.intro (fun h4 => ?_) (fun h4 => ?_)
        · repeat refine And.intro rfl ?_
          refine And.intro (fun r hr => by rw [List.mem_singleton.1 hr]; rfl) ?_
          repeat refine And.intro rfl ?_
          refine And.intro (by have := gr_le s ms n; simp only [List.length_map, List.length_cons, List.length_nil]; unfold big at *; omega) ?_
          have hc : candF s ms (gr s ms n) s.fields[i].name = true := by unfold candF; rw [h3, h4]; rfl
          have hg : gr s ms (n + 1) = gr s ms n ++ [s.fields[i].name] := gr_some (by
            show nextF s ms (gr s ms n) s.fields = _
            rw [hr, nextF_step hlt, hc]; rfl)
          repeat refine And.intro rfl ?_
          exact ⟨_, _, _, ⟨n + 1, rfl, hlt0, trivial, rfl, rfl⟩, by omega, rfl, rfl, ⟨rfl, rfl, rfl, nd (wrap_succ hlt0 hs), trivial⟩, ⟨rfl, rfl, trivial⟩, ⟨row_tab (by rw [hg, List.map_append]; rfl), rfl, trivial⟩⟩
        · repeat refine And.intro rfl ?_
          exact ⟨_, _, _, ⟨i + 1, rfl, hlt, by rw [hr, nextF_step hlt, show candF s ms (gr s ms n) s.fields[i].name = false from by unfold candF; rw [h4, Bool.and_false]]; rfl, rfl, rfl⟩, by omega, rfl, rfl, ⟨rfl, rfl, rfl, rfl, nd (wrap_succ hlt hs), trivial⟩, ⟨rfl, rfl, trivial⟩, ⟨rfl, rfl, trivial⟩⟩
      · simp only [Bool.not_eq_true', Bool.not_eq_false'] at h3
        repeat refine And.intro rfl ?_
        exact ⟨_, _, _, ⟨i + 1, rfl, hlt, by rw [hr, nextF_step hlt, show candF s ms (gr s ms n) s.fields[i].name = false from by unfold candF; rw [h3]; rfl]; rfl, rfl, rfl⟩, by omega, rfl, rfl, ⟨rfl, rfl, rfl, rfl, nd (wrap_succ hlt hs), trivial⟩, ⟨rfl, rfl, trivial⟩, ⟨rfl, rfl, trivial⟩⟩
    · have hg : gr s ms (n + 1) = gr s ms n := gr_none (by
        show nextF s ms (gr s ms n) s.fields = _
        rw [hr, nextF_end (ge_map h2)])
      repeat refine And.intro rfl ?_
      exact ⟨_, _, _, ⟨n + 1, rfl, hlt0, trivial, rfl, rfl⟩, by omega, rfl, rfl, ⟨rfl, rfl, rfl, nd (wrap_succ hlt0 hs), trivial⟩, ⟨rfl, rfl, trivial⟩, ⟨row_tab (by rw [hg]), rfl, trivial⟩⟩
  · refine ld ?_
    rw [show n = s.fields.length from by have := ge_map h1; omega]; rfl
theorem s_GateMendsOk (xs : List GateShape) (ms : List GateMend) : Spec P 104 [.d (lGateShape xs), .d (lGateMend ms)] (.d (.bool (mendsOk xs ms))) := by
  refine Spec.of_vc vcT vcM [.tmp 4] Tryz.func104 rfl rfl rfl rfl (fun hok => ?_)
  have hs : xs.length ≤ big := len_map hok.1.1
  have hsm : ms.length ≤ big := len_map hok.2.1.1
  repeat refine And.intro rfl ?_
  refine Or.inl (Exists.intro _ (And.intro (s_GateShapesOk _) ?_))
  repeat refine And.intro rfl ?_
  refine And.intro (fun h0 => ?_) (fun h0 => ?_)
  · simp only [Bool.not_eq_true', Bool.not_eq_false'] at h0
    repeat refine And.intro rfl ?_
    refine And.intro (fun h1 => ?_) (fun h1 => ?_)
    · rw [List.length_map] at h1
      refine bd ?_
      simp only [mendsOk, h1, Bool.not_true, Bool.false_and, Bool.and_false]
    · rw [List.length_map] at h1
      have e : mendsOk xs ms = (ms.all (mendOkF xs) && xs.all fun s => ((rowF s ms).length : Int) == (s.fields.length : Int)) := by simp only [mendsOk, h0, h1, Bool.not_false, Bool.true_and]
      rw [e]
      repeat refine And.intro rfl ?_
      refine ⟨fun m l h => ∃ (i : Nat) , m = ms.length - i ∧ i ≤ ms.length ∧ (ms.all (mendOkF xs) = (ms.drop i).all (mendOkF xs)) ∧ l = [(0, .d (lGateShape xs)), (1, .d (lGateMend ms)), (5, .d (.int .i64 i))] ∧ h = hp0,
        ⟨_, _, _, ⟨0, rfl, Nat.zero_le _, rfl, rfl, rfl⟩, rfl, rfl, ⟨rfl, rfl, rfl, trivial⟩, trivial, trivial⟩, ?_⟩
      rintro m l hh ⟨i, rfl, hi, hr, rfl, rfl⟩
      repeat refine And.intro rfl ?_
      refine And.intro (fun h2 => ?_) (fun h2 => ?_)
      · have hlt : i < ms.length := lt_map h2
        rw [all_step hlt] at hr
        repeat refine And.intro rfl ?_
        refine ix_at (e := GateMend.e) (xs := ms) (hlt) rfl ?_
        repeat refine And.intro rfl ?_
        repeat refine And.intro rfl ?_
        refine Or.inl (Exists.intro _ (And.intro (s_l3MendOk _ _) ?_))
        repeat refine And.intro rfl ?_
        refine And.intro (fun h3 => ?_) (fun h3 => ?_)
        · simp only [Bool.not_eq_true', Bool.not_eq_false'] at h3
          refine bd ?_
          rw [hr, h3]; rfl
        · simp only [Bool.not_eq_true', Bool.not_eq_false'] at h3
          repeat refine And.intro rfl ?_
          exact ⟨_, _, _, ⟨i + 1, rfl, hlt, by rw [hr, h3]; rfl, rfl, rfl⟩, by omega, rfl, rfl, ⟨rfl, rfl, nd (wrap_succ hlt hsm), trivial⟩, trivial, trivial⟩
      · rw [all_end (ge_map h2)] at hr
        rw [hr, Bool.true_and]
        repeat refine And.intro rfl ?_
        refine ⟨fun m l h => ∃ (i : Nat) , m = xs.length - i ∧ i ≤ xs.length ∧ ((xs.all fun s => ((rowF s ms).length : Int) == (s.fields.length : Int)) = ((xs.drop i).all fun s => ((rowF s ms).length : Int) == (s.fields.length : Int))) ∧ l = [(0, .d (lGateShape xs)), (1, .d (lGateMend ms)), (6, .d (.int .i64 i))] ∧ h = hp0,
          ⟨_, _, _, ⟨0, rfl, Nat.zero_le _, rfl, rfl, rfl⟩, rfl, rfl, ⟨rfl, rfl, rfl, trivial⟩, trivial, trivial⟩, ?_⟩
        rintro m l hh ⟨i, rfl, hi, hr, rfl, rfl⟩
        repeat refine And.intro rfl ?_
        refine And.intro (fun h4 => ?_) (fun h4 => ?_)
        · have hlt : i < xs.length := lt_map h4
          rw [all_step hlt] at hr
          repeat refine And.intro rfl ?_
          refine And.intro (by kernel_rfl) ?_
          repeat refine And.intro rfl ?_
          repeat refine And.intro rfl ?_
          refine ix_at (e := GateShape.e) (xs := xs) (hlt) rfl ?_
          repeat refine And.intro rfl ?_
          repeat refine And.intro rfl ?_
          refine Or.inl (Exists.intro _ (And.intro (s_l3Row _ _) ?_))
          repeat refine And.intro rfl ?_
          refine ix_at (e := GateShape.e) (xs := xs) (hlt) rfl ?_
          repeat refine And.intro rfl ?_
          repeat refine And.intro rfl ?_
          refine And.intro (fun h5 => ?_) (fun h5 => ?_)
          · simp only [bne, Bool.not_eq_true', Bool.not_eq_false', List.length_map] at h5
            refine bd ?_
            rw [hr, h5]; rfl
          · simp only [bne, Bool.not_eq_true', Bool.not_eq_false', List.length_map] at h5
            repeat refine And.intro rfl ?_
            exact ⟨_, _, _, ⟨i + 1, rfl, hlt, by rw [hr, h5]; rfl, rfl, rfl⟩, by omega, rfl, rfl, ⟨rfl, rfl, nd (wrap_succ hlt hs), trivial⟩, trivial, trivial⟩
        · refine bd ?_
          rw [hr, all_end (ge_map h4)]
  · simp only [Bool.not_eq_true', Bool.not_eq_false'] at h0
    refine bd ?_
    simp only [mendsOk, h0, Bool.false_and]
end Go.Vc
end

section
namespace Go.Vc
open Go.Proofs
set_option maxRecDepth 100000
set_option pp.maxSteps 400
set_option pp.deepTerms false
set_option linter.unusedSimpArgs false
set_option linter.unusedVariables false
/-- texts that are gathered: nothing at first, then a row of the call's own -/
def rowAV (id : Nat) : List Bs → AV
  | [] => .nils
  | _ :: _ => .own id
def rowHp (objs : List (Nat × AO)) (nx id : Nat) : List Bs → Heap
  | [] => ⟨objs, nx, nx⟩
  | x :: xs => ⟨(id, .row 9 1 ((x :: xs).map eB)) :: objs, id + 1, nx⟩
def entW (p : Bs × Int) : List D × AV := ([.str p.1], .d (.int .i64 p.2))
def fnReads : AV := .fn 201 [.ptr 1 0, .ptr 0 0]
def fnWalk : AV := .fn 215 [.ptr 6 0, .ptr 4 0, .ptr 8 0, .ptr 7 0]
def oS (s : GateShape) : AO := .cells 139 (s.e.map .d)
def oM (ms : List GateMend) : AO := .cells 40 [.d (lGateMend ms)]
def oA (all : List Bs) : AO := .row 9 1 (all.map eB)
def oR : AO := .cells 272 [fnReads]
def oT (w : Wk) : AO := .map 296 .str (w.st.map entW)
def oP : AO := .cells 296 [.mapr 5]
def oW : AO := .cells 165 [fnWalk]
/-- the heap while one walks -/
def hWo (s : GateShape) (ms : List GateMend) (all : List Bs) (es : List (List D × AV)) : List Bs → List (Nat × AO)
  | [] => [(8, oW), (7, .cells 119 [.nils]), (6, oP), (5, .map 296 .str es), (4, oR), (1, oM ms), (0, oS s)]
  | x :: xs => [(9, .row 9 1 ((x :: xs).map eB)), (8, oW), (7, .cells 119 [.own 9]), (6, oP), (5, .map 296 .str es), (4, oR), (1, oM ms), (0, oS s)]
def hWn : List Bs → Nat
  | [] => 9
  | _ :: _ => 10
def hWr (lo : Nat) (s : GateShape) (ms : List GateMend) (all : List Bs) (es : List (List D × AV)) (out : List Bs) : Heap := ⟨hWo s ms all es out, hWn out, lo⟩
def hW (lo : Nat) (s : GateShape) (ms : List GateMend) (all : List Bs) (w : Wk) : Heap := hWr lo s ms all (w.st.map entW) w.out
theorem reads_step {k n : Bs} {ms : List GateMend} {i : Nat} (h : i < ms.length) : readsF k (ms.take (i + 1)) n = readsF k (ms.take i) n ++ rd1 k n ms[i] := by
  unfold readsF
  rw [List.take_succ_eq_append_getElem h, List.map_append, List.flatten_append]
  simp
theorem opt1_len (s : Bs) : (opt1 s).length ≤ 1 := by unfold opt1; cases s == [] <;> simp
theorem reads_len {k n : Bs} : ∀ {ms : List GateMend}, (readsF k ms n).length ≤ 2 * ms.length
  | [] => Nat.le_refl _
  | m :: ms => by
    have ih := reads_len (k := k) (n := n) (ms := ms)
    unfold readsF at ih ⊢
    simp only [List.map_cons, List.flatten_cons, List.length_append, List.length_cons]
    have : (rd1 k n m).length ≤ 2 := by
      have h1 := opt1_len m.when_
      have h2 := opt1_len m.from_
      unfold rd1
      cases (m.kind == k && m.field == n)
      · simp
      · simp only [cond_true, List.length_append]; omega
    omega
theorem ltM_ent {n : Nat} : ∀ {st : List (Bs × Int)}, ltM n (st.map entW)
  | [] => trivial
  | _ :: _ => ⟨rfl, ltM_ent⟩
theorem rd1_off {k n : Bs} {m : GateMend} (h : (m.kind == k) = false) : rd1 k n m = [] := by unfold rd1; rw [h]; rfl
theorem rd1_off2 {k n : Bs} {m : GateMend} (h : (m.field == n) = false) : rd1 k n m = [] := by unfold rd1; rw [h, Bool.and_false]; rfl
theorem rd1_on {k n : Bs} {m : GateMend} (h : (m.kind == k) = true) (h2 : (m.field == n) = true) : rd1 k n m = opt1 m.when_ ++ opt1 m.from_ := by unfold rd1; rw [h, h2]; rfl
theorem opt1_no {s : Bs} (h : (s == []) = true) : opt1 s = [] := by unfold opt1; rw [h]; rfl
theorem opt1_yes {s : Bs} (h : (s == []) = false) : opt1 s = [s] := by unfold opt1; rw [h]; rfl
theorem row_app1 (t n : Nat) (a : Bs) (r : List Bs) (w : Bs) : some (AO.row t n ((a :: r).map eB ++ [[.str w]])) = some (AO.row t n ((a :: (r ++ [w])).map eB)) := by simp [eB]
theorem row_app2 (t n : Nat) (a : Bs) (r : List Bs) (w f : Bs) : some (AO.row t n (((a :: r).map eB ++ [[.str w]]) ++ [[.str f]])) = some (AO.row t n ((a :: (r ++ [w, f])).map eB)) := by simp [eB]
theorem i_reads (lo : Nat) (s : GateShape) (ms : List GateMend) (hm : ms.length ≤ 12) (all : List Bs) (es : List (List D × AV)) (hes : ∀ n, ltM n es) (hsub : ∀ i b, subM i b es = es) (out : List Bs) (n : Bs) :
    HSpec P 201 [.d (.str n), .ptr 1 0, .ptr 0 0] (hWr lo s ms all es out) (.d (lS (readsF s.kind ms n))) (hWr lo s ms all es out) := by
  have hs : ms.length ≤ big := by unfold big; omega
  cases out with
  | nil =>
    refine HSpec.of_vc vcT vcM [.tmp 4] Tryz.func201 rfl rfl rfl rfl rfl (fun hok => ?_)
    repeat refine And.intro rfl ?_
    refine ⟨fun m l h => ∃ (i : Nat) (A : List Bs), m = ms.length - i ∧ i ≤ ms.length ∧ (A = readsF s.kind (ms.take i) n) ∧ l = [(0, .d (.str n)), (1, .ptr 1 0), (2, .ptr 0 0), (5, rowAV 10 A), (8, .d (lGateMend ms)), (9, .d (.int .i64 (ms.map GateMend.e).length)), (10, .d (.int .i64 i))] ∧ h = rowHp [(8, oW), (7, .cells 119 [.nils]), (6, oP), (5, .map 296 .str es), (4, oR), (1, oM ms), (0, oS s)] 9 10 A,
      ⟨_, _, _, ⟨0, _, rfl, Nat.zero_le _, rfl, rfl, rfl⟩, rfl, rfl, ⟨rfl, rfl, rfl, rfl, rfl, rfl, rfl, trivial⟩, ⟨rfl, rfl, rfl, ⟨rfl, hes _⟩, rfl, rfl, rfl, trivial⟩, ⟨rfl, rfl, rfl, rfl, rfl, rfl, rfl, trivial⟩⟩, ?_⟩
    rintro m l hh ⟨i, A, rfl, hi, hr, rfl, rfl⟩
    have hAl : A.length ≤ 24 := by
      have := reads_len (k := s.kind) (n := n) (ms := ms.take i)
      rw [← hr, List.length_take] at this
      omega
    repeat refine And.intro rfl ?_
    refine And.intro (fun h1 => ?_) (fun h1 => ?_)
    · have hlt : i < ms.length := lt_map h1
      repeat refine And.intro rfl ?_
      refine ix_at (e := GateMend.e) (xs := ms) (hlt) rfl ?_
      repeat refine And.intro rfl ?_
      cases A with
      | nil =>
        repeat refine And.intro rfl ?_
        refine And.intro (fun h2 => ?_) (fun h2 => ?_)
        · simp only [bne, Bool.not_eq_true', Bool.not_eq_false'] at h2
          repeat refine And.intro rfl ?_
          refine And.intro (fun h3 => ?_) (fun h3 => ?_)
          · simp only [bne, Bool.not_eq_true', Bool.not_eq_false'] at h3
            repeat refine And.intro rfl ?_
            refine ⟨_, _, _, ⟨i + 1, [], rfl, hlt, by rw [reads_step hlt, ← hr, rd1_off2 h3, List.append_nil], rfl, rfl⟩, by omega, rfl, rfl, ?_, ?_, ?_⟩
            all_goals (repeat' first | exact rfl | exact trivial | exact nd (wrap_succ hlt hs) | exact hes _ | refine And.intro ?_ ?_)
          · simp only [bne, Bool.not_eq_true', Bool.not_eq_false'] at h3
            have hstep := reads_step (k := s.kind) (n := n) hlt
            rw [rd1_on h2 h3, ← hr] at hstep
            repeat refine And.intro rfl ?_
            refine And.intro (fun h4 => ?_) (fun h4 => ?_)
            · simp only [bne, Bool.not_eq_true', Bool.not_eq_false'] at h4
              rw [opt1_yes h4] at hstep
              repeat refine And.intro rfl ?_
              refine And.intro (fun r hr => by rw [List.mem_singleton.1 hr]; rfl) ?_
              repeat refine And.intro rfl ?_
              refine And.intro (by simp only [  List.length_nil, List.length_cons, List.length_map] at *; unfold big; omega) ?_
              repeat refine And.intro rfl ?_
              refine And.intro (fun h5 => ?_) (fun h5 => ?_)
              · simp only [bne, Bool.not_eq_true', Bool.not_eq_false'] at h5
                rw [opt1_yes h5] at hstep
                repeat refine And.intro rfl ?_
                refine And.intro (fun r hr => by rw [List.mem_singleton.1 hr]; rfl) ?_
                repeat refine And.intro rfl ?_
                refine And.intro (by simp only [List.length_append, List.length_nil, List.length_cons, List.length_map] at *; unfold big; omega) ?_
                repeat refine And.intro rfl ?_
                refine ⟨_, _, _, ⟨i + 1, [ ms[i].when_, ms[i].from_], rfl, hlt, by rw [hstep]; rfl, rfl, rfl⟩, by omega, rfl, rfl, ?_, ?_, ?_⟩
                all_goals (repeat' first | exact rfl | exact trivial | exact nd (wrap_succ hlt hs) | exact hes _ | exact map_tab (hsub _ _) | exact map_tab (by rw [hsub, hsub]) | exact row_tab rfl | exact row_app1 _ _ _ _ _ | exact row_app2 _ _ _ _ _ _ | refine And.intro ?_ ?_)
              · simp only [bne, Bool.not_eq_true', Bool.not_eq_false'] at h5
                rw [opt1_no h5] at hstep
                repeat refine And.intro rfl ?_
                refine ⟨_, _, _, ⟨i + 1, [ ms[i].when_], rfl, hlt, by rw [hstep]; rfl, rfl, rfl⟩, by omega, rfl, rfl, ?_, ?_, ?_⟩
                all_goals (repeat' first | exact rfl | exact trivial | exact nd (wrap_succ hlt hs) | exact hes _ | exact map_tab (hsub _ _) | exact map_tab (by rw [hsub, hsub]) | exact row_tab rfl | exact row_app1 _ _ _ _ _ | exact row_app2 _ _ _ _ _ _ | refine And.intro ?_ ?_)
            · simp only [bne, Bool.not_eq_true', Bool.not_eq_false'] at h4
              rw [opt1_no h4] at hstep
              repeat refine And.intro rfl ?_
              refine And.intro (fun h5 => ?_) (fun h5 => ?_)
              · simp only [bne, Bool.not_eq_true', Bool.not_eq_false'] at h5
                rw [opt1_yes h5] at hstep
                repeat refine And.intro rfl ?_
                refine And.intro (fun r hr => by rw [List.mem_singleton.1 hr]; rfl) ?_
                repeat refine And.intro rfl ?_
                refine And.intro (by simp only [  List.length_nil, List.length_cons, List.length_map] at *; unfold big; omega) ?_
                repeat refine And.intro rfl ?_
                refine ⟨_, _, _, ⟨i + 1, [ ms[i].from_], rfl, hlt, by rw [hstep]; rfl, rfl, rfl⟩, by omega, rfl, rfl, ?_, ?_, ?_⟩
                all_goals (repeat' first | exact rfl | exact trivial | exact nd (wrap_succ hlt hs) | exact hes _ | exact map_tab (hsub _ _) | exact map_tab (by rw [hsub, hsub]) | exact row_tab rfl | exact row_app1 _ _ _ _ _ | exact row_app2 _ _ _ _ _ _ | refine And.intro ?_ ?_)
              · simp only [bne, Bool.not_eq_true', Bool.not_eq_false'] at h5
                rw [opt1_no h5] at hstep
                repeat refine And.intro rfl ?_
                refine ⟨_, _, _, ⟨i + 1, [], rfl, hlt, by rw [hstep]; simp, rfl, rfl⟩, by omega, rfl, rfl, ?_, ?_, ?_⟩
                all_goals (repeat' first | exact rfl | exact trivial | exact nd (wrap_succ hlt hs) | exact hes _ | refine And.intro ?_ ?_)
        · simp only [bne, Bool.not_eq_true', Bool.not_eq_false'] at h2
          repeat refine And.intro rfl ?_
          refine ⟨_, _, _, ⟨i + 1, [], rfl, hlt, by rw [reads_step hlt, ← hr, rd1_off h2, List.append_nil], rfl, rfl⟩, by omega, rfl, rfl, ?_, ?_, ?_⟩
          all_goals (repeat' first | exact rfl | exact trivial | exact nd (wrap_succ hlt hs) | exact hes _ | refine And.intro ?_ ?_)
      | cons a tl =>
        repeat refine And.intro rfl ?_
        refine And.intro (fun h2 => ?_) (fun h2 => ?_)
        · simp only [bne, Bool.not_eq_true', Bool.not_eq_false'] at h2
          repeat refine And.intro rfl ?_
          refine And.intro (fun h3 => ?_) (fun h3 => ?_)
          · simp only [bne, Bool.not_eq_true', Bool.not_eq_false'] at h3
            repeat refine And.intro rfl ?_
            refine ⟨_, _, _, ⟨i + 1, (a :: tl), rfl, hlt, by rw [reads_step hlt, ← hr, rd1_off2 h3, List.append_nil], rfl, rfl⟩, by omega, rfl, rfl, ?_, ?_, ?_⟩
            all_goals (repeat' first | exact rfl | exact trivial | exact nd (wrap_succ hlt hs) | exact hes _ | refine And.intro ?_ ?_)
          · simp only [bne, Bool.not_eq_true', Bool.not_eq_false'] at h3
            have hstep := reads_step (k := s.kind) (n := n) hlt
            rw [rd1_on h2 h3, ← hr] at hstep
            repeat refine And.intro rfl ?_
            refine And.intro (fun h4 => ?_) (fun h4 => ?_)
            · simp only [bne, Bool.not_eq_true', Bool.not_eq_false'] at h4
              rw [opt1_yes h4] at hstep
              repeat refine And.intro rfl ?_
              refine And.intro (fun r hr => by rw [List.mem_singleton.1 hr]; rfl) ?_
              repeat refine And.intro rfl ?_
              refine And.intro (by simp only [List.length_append, List.length_nil, List.length_cons, List.length_map] at *; unfold big; omega) ?_
              repeat refine And.intro rfl ?_
              refine And.intro (fun h5 => ?_) (fun h5 => ?_)
              · simp only [bne, Bool.not_eq_true', Bool.not_eq_false'] at h5
                rw [opt1_yes h5] at hstep
                repeat refine And.intro rfl ?_
                refine And.intro (fun r hr => by rw [List.mem_singleton.1 hr]; rfl) ?_
                repeat refine And.intro rfl ?_
                refine And.intro (by simp only [List.length_append, List.length_nil, List.length_cons, List.length_map] at *; unfold big; omega) ?_
                repeat refine And.intro rfl ?_
                refine ⟨_, _, _, ⟨i + 1, (a :: (tl ++ [ ms[i].when_, ms[i].from_] )), rfl, hlt, by rw [hstep]; rfl, rfl, rfl⟩, by omega, rfl, rfl, ?_, ?_, ?_⟩
                all_goals (repeat' first | exact rfl | exact trivial | exact nd (wrap_succ hlt hs) | exact hes _ | exact map_tab (hsub _ _) | exact map_tab (by rw [hsub, hsub]) | exact row_tab rfl | exact row_app1 _ _ _ _ _ | exact row_app2 _ _ _ _ _ _ | refine And.intro ?_ ?_)
              · simp only [bne, Bool.not_eq_true', Bool.not_eq_false'] at h5
                rw [opt1_no h5] at hstep
                repeat refine And.intro rfl ?_
                refine ⟨_, _, _, ⟨i + 1, (a :: (tl ++ [ ms[i].when_] )), rfl, hlt, by rw [hstep]; rfl, rfl, rfl⟩, by omega, rfl, rfl, ?_, ?_, ?_⟩
                all_goals (repeat' first | exact rfl | exact trivial | exact nd (wrap_succ hlt hs) | exact hes _ | exact map_tab (hsub _ _) | exact map_tab (by rw [hsub, hsub]) | exact row_tab rfl | exact row_app1 _ _ _ _ _ | exact row_app2 _ _ _ _ _ _ | refine And.intro ?_ ?_)
            · simp only [bne, Bool.not_eq_true', Bool.not_eq_false'] at h4
              rw [opt1_no h4] at hstep
              repeat refine And.intro rfl ?_
              refine And.intro (fun h5 => ?_) (fun h5 => ?_)
              · simp only [bne, Bool.not_eq_true', Bool.not_eq_false'] at h5
                rw [opt1_yes h5] at hstep
                repeat refine And.intro rfl ?_
                refine And.intro (fun r hr => by rw [List.mem_singleton.1 hr]; rfl) ?_
                repeat refine And.intro rfl ?_
                refine And.intro (by simp only [List.length_append, List.length_nil, List.length_cons, List.length_map] at *; unfold big; omega) ?_
                repeat refine And.intro rfl ?_
                refine ⟨_, _, _, ⟨i + 1, (a :: (tl ++ [ ms[i].from_] )), rfl, hlt, by rw [hstep]; rfl, rfl, rfl⟩, by omega, rfl, rfl, ?_, ?_, ?_⟩
                all_goals (repeat' first | exact rfl | exact trivial | exact nd (wrap_succ hlt hs) | exact hes _ | exact map_tab (hsub _ _) | exact map_tab (by rw [hsub, hsub]) | exact row_tab rfl | exact row_app1 _ _ _ _ _ | exact row_app2 _ _ _ _ _ _ | refine And.intro ?_ ?_)
              · simp only [bne, Bool.not_eq_true', Bool.not_eq_false'] at h5
                rw [opt1_no h5] at hstep
                repeat refine And.intro rfl ?_
                refine ⟨_, _, _, ⟨i + 1, (a :: tl), rfl, hlt, by rw [hstep]; simp, rfl, rfl⟩, by omega, rfl, rfl, ?_, ?_, ?_⟩
                all_goals (repeat' first | exact rfl | exact trivial | exact nd (wrap_succ hlt hs) | exact hes _ | refine And.intro ?_ ?_)
        · simp only [bne, Bool.not_eq_true', Bool.not_eq_false'] at h2
          repeat refine And.intro rfl ?_
          refine ⟨_, _, _, ⟨i + 1, (a :: tl), rfl, hlt, by rw [reads_step hlt, ← hr, rd1_off h2, List.append_nil], rfl, rfl⟩, by omega, rfl, rfl, ?_, ?_, ?_⟩
          all_goals (repeat' first | exact rfl | exact trivial | exact nd (wrap_succ hlt hs) | exact hes _ | refine And.intro ?_ ?_)
    · have ha : A = readsF s.kind ms n := by rw [hr, List.take_of_length_le (ge_map h1)]
      rw [← ha]
      cases A with
      | nil =>
        refine And.intro rfl (And.intro rfl ⟨rfl, rfl, ?_, ?_, ?_⟩)
        all_goals (repeat' first | exact rfl | exact trivial | exact hes _ | exact map_tab (hsub _ _) | refine And.intro ?_ ?_)
      | cons a tl =>
        refine And.intro rfl (And.intro rfl ⟨rfl, rfl, ?_, ?_, ?_⟩)
        all_goals (repeat' first | exact rfl | exact trivial | exact hes _ | exact map_tab (hsub _ _) | refine And.intro ?_ ?_)
  | cons x xs =>
    refine HSpec.of_vc vcT vcM [.tmp 4] Tryz.func201 rfl rfl rfl rfl rfl (fun hok => ?_)
    repeat refine And.intro rfl ?_
    refine ⟨fun m l h => ∃ (i : Nat) (A : List Bs), m = ms.length - i ∧ i ≤ ms.length ∧ (A = readsF s.kind (ms.take i) n) ∧ l = [(0, .d (.str n)), (1, .ptr 1 0), (2, .ptr 0 0), (5, rowAV 11 A), (8, .d (lGateMend ms)), (9, .d (.int .i64 (ms.map GateMend.e).length)), (10, .d (.int .i64 i))] ∧ h = rowHp [(9, .row 9 1 ((x :: xs).map eB)), (8, oW), (7, .cells 119 [.own 9]), (6, oP), (5, .map 296 .str es), (4, oR), (1, oM ms), (0, oS s)] 10 11 A,
      ⟨_, _, _, ⟨0, _, rfl, Nat.zero_le _, rfl, rfl, rfl⟩, rfl, rfl, ⟨rfl, rfl, rfl, rfl, rfl, rfl, rfl, trivial⟩, ⟨rfl, rfl, rfl, rfl, ⟨rfl, hes _⟩, rfl, rfl, rfl, trivial⟩, ⟨rfl, rfl, rfl, rfl, rfl, rfl, rfl, rfl, trivial⟩⟩, ?_⟩
    rintro m l hh ⟨i, A, rfl, hi, hr, rfl, rfl⟩
    have hAl : A.length ≤ 24 := by
      have := reads_len (k := s.kind) (n := n) (ms := ms.take i)
      rw [← hr, List.length_take] at this
      omega
    repeat refine And.intro rfl ?_
    refine And.intro (fun h1 => ?_) (fun h1 => ?_)
    · have hlt : i < ms.length := lt_map h1
      repeat refine And.intro rfl ?_
      refine ix_at (e := GateMend.e) (xs := ms) (hlt) rfl ?_
      repeat refine And.intro rfl ?_
      cases A with
      | nil =>
        repeat refine And.intro rfl ?_
        refine And.intro (fun h2 => ?_) (fun h2 => ?_)
        · simp only [bne, Bool.not_eq_true', Bool.not_eq_false'] at h2
          repeat refine And.intro rfl ?_
          refine And.intro (fun h3 => ?_) (fun h3 => ?_)
          · simp only [bne, Bool.not_eq_true', Bool.not_eq_false'] at h3
            repeat refine And.intro rfl ?_
            refine ⟨_, _, _, ⟨i + 1, [], rfl, hlt, by rw [reads_step hlt, ← hr, rd1_off2 h3, List.append_nil], rfl, rfl⟩, by omega, rfl, rfl, ?_, ?_, ?_⟩
            all_goals (repeat' first | exact rfl | exact trivial | exact nd (wrap_succ hlt hs) | exact hes _ | refine And.intro ?_ ?_)
          · simp only [bne, Bool.not_eq_true', Bool.not_eq_false'] at h3
            have hstep := reads_step (k := s.kind) (n := n) hlt
            rw [rd1_on h2 h3, ← hr] at hstep
            repeat refine And.intro rfl ?_
            refine And.intro (fun h4 => ?_) (fun h4 => ?_)
            · simp only [bne, Bool.not_eq_true', Bool.not_eq_false'] at h4
              rw [opt1_yes h4] at hstep
              repeat refine And.intro rfl ?_
              refine And.intro (fun r hr => by rw [List.mem_singleton.1 hr]; rfl) ?_
              repeat refine And.intro rfl ?_
              refine And.intro (by simp only [  List.length_nil, List.length_cons, List.length_map] at *; unfold big; omega) ?_
              repeat refine And.intro rfl ?_
              refine And.intro (fun h5 => ?_) (fun h5 => ?_)
              · simp only [bne, Bool.not_eq_true', Bool.not_eq_false'] at h5
                rw [opt1_yes h5] at hstep
                repeat refine And.intro rfl ?_
                refine And.intro (fun r hr => by rw [List.mem_singleton.1 hr]; rfl) ?_
                repeat refine And.intro rfl ?_
                refine And.intro (by simp only [List.length_append, List.length_nil, List.length_cons, List.length_map] at *; unfold big; omega) ?_
                repeat refine And.intro rfl ?_
                refine ⟨_, _, _, ⟨i + 1, [ ms[i].when_, ms[i].from_], rfl, hlt, by rw [hstep]; rfl, rfl, rfl⟩, by omega, rfl, rfl, ?_, ?_, ?_⟩
                all_goals (repeat' first | exact rfl | exact trivial | exact nd (wrap_succ hlt hs) | exact hes _ | exact map_tab (hsub _ _) | exact map_tab (by rw [hsub, hsub]) | exact row_tab rfl | exact row_app1 _ _ _ _ _ | exact row_app2 _ _ _ _ _ _ | refine And.intro ?_ ?_)
              · simp only [bne, Bool.not_eq_true', Bool.not_eq_false'] at h5
                rw [opt1_no h5] at hstep
                repeat refine And.intro rfl ?_
                refine ⟨_, _, _, ⟨i + 1, [ ms[i].when_], rfl, hlt, by rw [hstep]; rfl, rfl, rfl⟩, by omega, rfl, rfl, ?_, ?_, ?_⟩
                all_goals (repeat' first | exact rfl | exact trivial | exact nd (wrap_succ hlt hs) | exact hes _ | exact map_tab (hsub _ _) | exact map_tab (by rw [hsub, hsub]) | exact row_tab rfl | exact row_app1 _ _ _ _ _ | exact row_app2 _ _ _ _ _ _ | refine And.intro ?_ ?_)
            · simp only [bne, Bool.not_eq_true', Bool.not_eq_false'] at h4
              rw [opt1_no h4] at hstep
              repeat refine And.intro rfl ?_
              refine And.intro (fun h5 => ?_) (fun h5 => ?_)
              · simp only [bne, Bool.not_eq_true', Bool.not_eq_false'] at h5
                rw [opt1_yes h5] at hstep
                repeat refine And.intro rfl ?_
                refine And.intro (fun r hr => by rw [List.mem_singleton.1 hr]; rfl) ?_
                repeat refine And.intro rfl ?_
                refine And.intro (by simp only [  List.length_nil, List.length_cons, List.length_map] at *; unfold big; omega) ?_
                repeat refine And.intro rfl ?_
                refine ⟨_, _, _, ⟨i + 1, [ ms[i].from_], rfl, hlt, by rw [hstep]; rfl, rfl, rfl⟩, by omega, rfl, rfl, ?_, ?_, ?_⟩
                all_goals (repeat' first | exact rfl | exact trivial | exact nd (wrap_succ hlt hs) | exact hes _ | exact map_tab (hsub _ _) | exact map_tab (by rw [hsub, hsub]) | exact row_tab rfl | exact row_app1 _ _ _ _ _ | exact row_app2 _ _ _ _ _ _ | refine And.intro ?_ ?_)
              · simp only [bne, Bool.not_eq_true', Bool.not_eq_false'] at h5
                rw [opt1_no h5] at hstep
                repeat refine And.intro rfl ?_
                refine ⟨_, _, _, ⟨i + 1, [], rfl, hlt, by rw [hstep]; simp, rfl, rfl⟩, by omega, rfl, rfl, ?_, ?_, ?_⟩
                all_goals (repeat' first | exact rfl | exact trivial | exact nd (wrap_succ hlt hs) | exact hes _ | refine And.intro ?_ ?_)
        · simp only [bne, Bool.not_eq_true', Bool.not_eq_false'] at h2
          repeat refine And.intro rfl ?_
          refine ⟨_, _, _, ⟨i + 1, [], rfl, hlt, by rw [reads_step hlt, ← hr, rd1_off h2, List.append_nil], rfl, rfl⟩, by omega, rfl, rfl, ?_, ?_, ?_⟩
          all_goals (repeat' first | exact rfl | exact trivial | exact nd (wrap_succ hlt hs) | exact hes _ | refine And.intro ?_ ?_)
      | cons a tl =>
        repeat refine And.intro rfl ?_
        refine And.intro (fun h2 => ?_) (fun h2 => ?_)
        · simp only [bne, Bool.not_eq_true', Bool.not_eq_false'] at h2
          repeat refine And.intro rfl ?_
          refine And.intro (fun h3 => ?_) (fun h3 => ?_)
          · simp only [bne, Bool.not_eq_true', Bool.not_eq_false'] at h3
            repeat refine And.intro rfl ?_
            refine ⟨_, _, _, ⟨i + 1, (a :: tl), rfl, hlt, by rw [reads_step hlt, ← hr, rd1_off2 h3, List.append_nil], rfl, rfl⟩, by omega, rfl, rfl, ?_, ?_, ?_⟩
            all_goals (repeat' first | exact rfl | exact trivial | exact nd (wrap_succ hlt hs) | exact hes _ | refine And.intro ?_ ?_)
          · simp only [bne, Bool.not_eq_true', Bool.not_eq_false'] at h3
            have hstep := reads_step (k := s.kind) (n := n) hlt
            rw [rd1_on h2 h3, ← hr] at hstep
            repeat refine And.intro rfl ?_
            refine And.intro (fun h4 => ?_) (fun h4 => ?_)
            · simp only [bne, Bool.not_eq_true', Bool.not_eq_false'] at h4
              rw [opt1_yes h4] at hstep
              repeat refine And.intro rfl ?_
              refine And.intro (fun r hr => by rw [List.mem_singleton.1 hr]; rfl) ?_
              repeat refine And.intro rfl ?_
              refine And.intro (by simp only [List.length_append, List.length_nil, List.length_cons, List.length_map] at *; unfold big; omega) ?_
              repeat refine And.intro rfl ?_
              refine And.intro (fun h5 => ?_) (fun h5 => ?_)
              · simp only [bne, Bool.not_eq_true', Bool.not_eq_false'] at h5
                rw [opt1_yes h5] at hstep
                repeat refine And.intro rfl ?_
                refine And.intro (fun r hr => by rw [List.mem_singleton.1 hr]; rfl) ?_
                repeat refine And.intro rfl ?_
                refine And.intro (by simp only [List.length_append, List.length_nil, List.length_cons, List.length_map] at *; unfold big; omega) ?_
                repeat refine And.intro rfl ?_
                refine ⟨_, _, _, ⟨i + 1, (a :: (tl ++ [ ms[i].when_, ms[i].from_] )), rfl, hlt, by rw [hstep]; rfl, rfl, rfl⟩, by omega, rfl, rfl, ?_, ?_, ?_⟩
                all_goals (repeat' first | exact rfl | exact trivial | exact nd (wrap_succ hlt hs) | exact hes _ | exact map_tab (hsub _ _) | exact map_tab (by rw [hsub, hsub]) | exact row_tab rfl | exact row_app1 _ _ _ _ _ | exact row_app2 _ _ _ _ _ _ | refine And.intro ?_ ?_)
              · simp only [bne, Bool.not_eq_true', Bool.not_eq_false'] at h5
                rw [opt1_no h5] at hstep
                repeat refine And.intro rfl ?_
                refine ⟨_, _, _, ⟨i + 1, (a :: (tl ++ [ ms[i].when_] )), rfl, hlt, by rw [hstep]; rfl, rfl, rfl⟩, by omega, rfl, rfl, ?_, ?_, ?_⟩
                all_goals (repeat' first | exact rfl | exact trivial | exact nd (wrap_succ hlt hs) | exact hes _ | exact map_tab (hsub _ _) | exact map_tab (by rw [hsub, hsub]) | exact row_tab rfl | exact row_app1 _ _ _ _ _ | exact row_app2 _ _ _ _ _ _ | refine And.intro ?_ ?_)
            · simp only [bne, Bool.not_eq_true', Bool.not_eq_false'] at h4
              rw [opt1_no h4] at hstep
              repeat refine And.intro rfl ?_
              refine And.intro (fun h5 => ?_) (fun h5 => ?_)
              · simp only [bne, Bool.not_eq_true', Bool.not_eq_false'] at h5
                rw [opt1_yes h5] at hstep
                repeat refine And.intro rfl ?_
                refine And.intro (fun r hr => by rw [List.mem_singleton.1 hr]; rfl) ?_
                repeat refine And.intro rfl ?_
                refine And.intro (by simp only [List.length_append, List.length_nil, List.length_cons, List.length_map] at *; unfold big; omega) ?_
                repeat refine And.intro rfl ?_
                refine ⟨_, _, _, ⟨i + 1, (a :: (tl ++ [ ms[i].from_] )), rfl, hlt, by rw [hstep]; rfl, rfl, rfl⟩, by omega, rfl, rfl, ?_, ?_, ?_⟩
                all_goals (repeat' first | exact rfl | exact trivial | exact nd (wrap_succ hlt hs) | exact hes _ | exact map_tab (hsub _ _) | exact map_tab (by rw [hsub, hsub]) | exact row_tab rfl | exact row_app1 _ _ _ _ _ | exact row_app2 _ _ _ _ _ _ | refine And.intro ?_ ?_)
              · simp only [bne, Bool.not_eq_true', Bool.not_eq_false'] at h5
                rw [opt1_no h5] at hstep
                repeat refine And.intro rfl ?_
                refine ⟨_, _, _, ⟨i + 1, (a :: tl), rfl, hlt, by rw [hstep]; simp, rfl, rfl⟩, by omega, rfl, rfl, ?_, ?_, ?_⟩
                all_goals (repeat' first | exact rfl | exact trivial | exact nd (wrap_succ hlt hs) | exact hes _ | refine And.intro ?_ ?_)
        · simp only [bne, Bool.not_eq_true', Bool.not_eq_false'] at h2
          repeat refine And.intro rfl ?_
          refine ⟨_, _, _, ⟨i + 1, (a :: tl), rfl, hlt, by rw [reads_step hlt, ← hr, rd1_off h2, List.append_nil], rfl, rfl⟩, by omega, rfl, rfl, ?_, ?_, ?_⟩
          all_goals (repeat' first | exact rfl | exact trivial | exact nd (wrap_succ hlt hs) | exact hes _ | refine And.intro ?_ ?_)
    · have ha : A = readsF s.kind ms n := by rw [hr, List.take_of_length_le (ge_map h1)]
      rw [← ha]
      cases A with
      | nil =>
        refine And.intro rfl (And.intro rfl ⟨rfl, rfl, ?_, ?_, ?_⟩)
        all_goals (repeat' first | exact rfl | exact trivial | exact hes _ | exact map_tab (hsub _ _) | refine And.intro ?_ ?_)
      | cons a tl =>
        refine And.intro rfl (And.intro rfl ⟨rfl, rfl, ?_, ?_, ?_⟩)
        all_goals (repeat' first | exact rfl | exact trivial | exact hes _ | exact map_tab (hsub _ _) | refine And.intro ?_ ?_)
end Go.Vc
end

section
namespace Go.Vc
open Go.Proofs
set_option maxRecDepth 100000
set_option pp.maxSteps 400
set_option pp.deepTerms false
set_option linter.unusedSimpArgs false
set_option linter.unusedVariables false
theorem subM_ent {i : Nat} {b : AV} : ∀ {st : List (Bs × Int)}, subM i b (st.map entW) = st.map entW
  | [] => rfl
  | p :: st => by
    have ih := subM_ent (i := i) (b := b) (st := st)
    simp only [List.map_cons, subM, entW, ih, AV.sub]
theorem put_ent {x : Bs} {v : Int} : ∀ {st : List (Bs × Int)}, mapPut (st.map entW) [.str x] (.d (.int .i64 v)) = (pt st x v).map entW
  | [] => rfl
  | (k, u) :: st => by
    have ih := put_ent (x := x) (v := v) (st := st)
    simp only [List.map_cons, entW, mapPut, keyEq, pt, bs_comm x k]
    cases k == x with
    | true => rfl
    | false => simp only [cond_false, List.map_cons, entW]; exact congrArg _ ih
theorem look_ent {x : Bs} : ∀ (st : List (Bs × Int)), (mapLook (st.map entW) [.str x] = none ∧ lk st x = 0) ∨ mapLook (st.map entW) [.str x] = some (.d (.int .i64 (lk st x)))
  | [] => .inl ⟨rfl, rfl⟩
  | (k, u) :: st => by
    simp only [List.map_cons, entW, mapLook, keyEq, lk, bs_comm x k]
    cases k == x with
    | true => exact .inr rfl
    | false => exact look_ent st
theorem put_tab {t : Nat} {tk : TK} {x : Bs} {v : Int} {st : List (Bs × Int)} : some (AO.map t tk (mapPut (st.map entW) [.str x] (.d (.int .i64 v)))) = some (AO.map t tk ((pt st x v).map entW)) := by rw [put_ent]
theorem put_tab2 {t : Nat} {tk : TK} {x : Bs} {v : Int} {st : List (Bs × Int)} {i : Nat} {b : AV} : some (AO.map t tk (subM i b (mapPut (st.map entW) [.str x] (.d (.int .i64 v))))) = some (AO.map t tk ((pt st x v).map entW)) := by rw [put_ent, subM_ent]
theorem i_walk (s : GateShape) (ms : List GateMend) (hm : ms.length ≤ 12) (all N : List Bs) (hN : N.length ≤ big) (hin : ∀ n ∈ N, ∀ y ∈ readsF s.kind ms n, y ∈ N) :
    ∀ (k lo : Nat) (x : Bs) (w : Wk), x ∈ N → WkOk (readsF s.kind ms) N w → white N w < k →
    HSpec P 215 [.d (.str x), .ptr 6 0, .ptr 4 0, .ptr 8 0, .ptr 7 0] (hW lo s ms all w) (.d (.bool (walk (readsF s.kind ms) k x w).1)) (hW lo s ms all (walk (readsF s.kind ms) k x w).2)
  | 0, _, _, _, _, _, h => by omega
  | k + 1, lo, x, w, hx, hwk, hk => by
    obtain ⟨st, out⟩ := w
    generalize hq : walk (readsF s.kind ms) (k + 1) x ⟨st, out⟩ = q
    obtain ⟨b, w2⟩ := q
    show HSpec P _ _ _ (.d (.bool b)) (hW lo s ms all w2)
    cases out with
    | nil =>
      refine HSpec.of_vc vcT vcM [.tmp 6] Tryz.func215 rfl rfl rfl rfl rfl (fun hok => ?_)
      repeat refine And.intro rfl ?_
      rcases look_ent (x := x) st with ⟨e0, e1⟩ | e1
      · refine ⟨_, e0, ?_⟩
        repeat refine And.intro rfl ?_
        refine And.intro (fun g1 => ?_) (fun g1 => ?_)
        · have g1' : (lk st x == 1) = true := by first | exact g1 | (rw [e1]; exact g1)
          rw [walk_one g1'] at hq
          obtain ⟨rfl, rfl⟩ := Prod.mk.inj hq
          refine And.intro rfl (And.intro rfl ⟨rfl, rfl, ?_, ?_, ?_⟩)
          all_goals (repeat' first | exact rfl | exact trivial | exact ltM_ent | refine And.intro ?_ ?_)
        · have g1' : (lk st x == 1) = false := by first | exact g1 | (rw [e1]; exact g1)
          repeat refine And.intro rfl ?_
          refine And.intro (fun g2 => ?_) (fun g2 => ?_)
          · have g2' : (lk st x == 2) = true := by first | exact g2 | (rw [e1]; exact g2)
            rw [walk_two g1' g2'] at hq
            obtain ⟨rfl, rfl⟩ := Prod.mk.inj hq
            refine And.intro rfl (And.intro rfl ⟨rfl, rfl, ?_, ?_, ?_⟩)
            all_goals (repeat' first | exact rfl | exact trivial | exact ltM_ent | refine And.intro ?_ ?_)
          · have g2' : (lk st x == 2) = false := by first | exact g2 | (rw [e1]; exact g2)
            repeat refine And.intro rfl ?_
            refine Or.inr (Or.inl (Exists.intro _ (Exists.intro _ (And.intro (i_reads _ s ms hm all (mapPut (st.map entW) [.str x] (.d (.int .i64 1))) (fun n => by rw [put_ent]; exact ltM_ent) (fun i b => by rw [put_ent]; exact subM_ent) [] x) ?_))))
            have hs : (readsF s.kind ms x).length ≤ big := by
              have := reads_len (k := s.kind) (n := x) (ms := ms)
              unfold big; omega
            repeat refine And.intro rfl ?_
            refine ⟨fun m l h => ∃ (i : Nat) (u : Wk), m = (readsF s.kind ms x).length - i ∧ i ≤ (readsF s.kind ms x).length ∧ (walkL (walk (readsF s.kind ms) k) (readsF s.kind ms x) ⟨pt st x 1, []⟩ = walkL (walk (readsF s.kind ms) k) ((readsF s.kind ms x).drop i) u ∧ WkIn (readsF s.kind ms) N x ⟨st, []⟩ u ∧ ∃ t, u.out = [] ++ t) ∧ l = [(0, .d (.str x)), (1, .ptr 6 0), (2, .ptr 4 0), (3, .ptr 8 0), (4, .ptr 7 0), (20, .d (lS (readsF s.kind ms x))), (21, .d (.int .i64 ((readsF s.kind ms x).map eB).length)), (22, .d (.int .i64 i))] ∧ h = hW 9 s ms all u,
              ⟨_, _, _, ⟨0, _, rfl, Nat.zero_le _, ⟨rfl, wk_start hx hwk g1' g2', [], by simp⟩, rfl, rfl⟩, rfl, rfl, ⟨rfl, rfl, rfl, rfl, rfl, rfl, rfl, rfl, trivial⟩, (by repeat' first|exact rfl|exact trivial|exact ltM_ent|refine And.intro ?_ ?_), (by repeat' first|exact rfl|exact trivial|exact put_tab|refine And.intro ?_ ?_)⟩, ?_⟩
            rintro m l hh ⟨i, u, rfl, hi, hr, rfl, rfl⟩
            obtain ⟨hE, hI, hT⟩ := hr
            obtain ⟨st1, out1⟩ := u
            cases out1 with
            | nil =>
              repeat refine And.intro rfl ?_
              refine And.intro (fun h1 => ?_) (fun h1 => ?_)
              · have hlt : i < (readsF s.kind ms x).length := lt_map h1
                have hy : (readsF s.kind ms x)[i] ∈ N := hin x hx _ (List.getElem_mem hlt)
                have hc := i_walk s ms hm all N hN hin k 9 (readsF s.kind ms x)[i] ⟨st1, []⟩ hy hI.ok (by have := hI.white; omega)
                rw [walkL_drop hlt] at hE
                generalize hv : walk (readsF s.kind ms) k (readsF s.kind ms x)[i] ⟨st1, []⟩ = v at hc hE
                obtain ⟨b3, st3, out3⟩ := v
                have hO : ∃ t, out3 = [] ++ t := by
                  have := walk_out (readsF s.kind ms) k (readsF s.kind ms x)[i] ⟨st1, []⟩
                  rw [hv] at this; exact this
                have hT3 : ∃ t, out3 = [] ++ t := by
                  obtain ⟨t, ht⟩ := hT
                  obtain ⟨t2, ht2⟩ := hO
                  exact ⟨t ++ t2, by rw [ht2, ← List.append_assoc]; exact congrArg (· ++ t2) ht⟩
                repeat refine And.intro rfl ?_
                refine ix_atw (e := eB) (xs := (readsF s.kind ms x)) (hlt) (rfl) rfl ?_
                repeat refine And.intro rfl ?_
                cases out3 with
                | nil =>
                  cases b3 with
                  | false =>
                    refine Or.inr (Or.inl (Exists.intro _ (Exists.intro _ (And.intro hc ?_))))
                    repeat refine And.intro rfl ?_
                    refine And.intro (fun _ => ?_) (fun h => absurd h (by simp))
                    rw [walk_no g1' g2' hE] at hq
                    obtain ⟨rfl, rfl⟩ := Prod.mk.inj hq
                    refine And.intro rfl (And.intro rfl ⟨rfl, rfl, ?_, ?_, ?_⟩)
                    all_goals (repeat' first | exact rfl | exact trivial | exact ltM_ent | refine And.intro ?_ ?_)
                  | true =>
                    refine Or.inr (Or.inl (Exists.intro _ (Exists.intro _ (And.intro hc ?_))))
                    repeat refine And.intro rfl ?_
                    refine And.intro (fun h => absurd h (by simp)) (fun _ => ?_)
                    repeat refine And.intro rfl ?_
                    refine ⟨_, _, _, ⟨i + 1, ⟨st3, []⟩, rfl, hlt, ⟨hE, wk_next hin hI hk hy hv, hT3⟩, rfl, rfl⟩, by omega, rfl, rfl, ?_, ?_, ?_⟩
                    all_goals (repeat' first | exact rfl | exact trivial | exact nd (wrap_succ hlt hs) | exact ltM_ent | refine And.intro ?_ ?_)
                | cons z zs =>
                  cases b3 with
                  | false =>
                    refine Or.inr (Or.inl (Exists.intro _ (Exists.intro _ (And.intro hc ?_))))
                    repeat refine And.intro rfl ?_
                    refine And.intro (fun _ => ?_) (fun h => absurd h (by simp))
                    rw [walk_no g1' g2' hE] at hq
                    obtain ⟨rfl, rfl⟩ := Prod.mk.inj hq
                    refine And.intro rfl (And.intro rfl ⟨rfl, rfl, ?_, ?_, ?_⟩)
                    all_goals (repeat' first | exact rfl | exact trivial | exact ltM_ent | refine And.intro ?_ ?_)
                  | true =>
                    refine Or.inr (Or.inl (Exists.intro _ (Exists.intro _ (And.intro hc ?_))))
                    repeat refine And.intro rfl ?_
                    refine And.intro (fun h => absurd h (by simp)) (fun _ => ?_)
                    repeat refine And.intro rfl ?_
                    refine ⟨_, _, _, ⟨i + 1, ⟨st3, (z :: zs)⟩, rfl, hlt, ⟨hE, wk_next hin hI hk hy hv, hT3⟩, rfl, rfl⟩, by omega, rfl, rfl, ?_, ?_, ?_⟩
                    all_goals (repeat' first | exact rfl | exact trivial | exact nd (wrap_succ hlt hs) | exact ltM_ent | refine And.intro ?_ ?_)
              · rw [walkL_end (ge_map h1)] at hE
                rw [walk_yes g1' g2' hE] at hq
                obtain ⟨rfl, rfl⟩ := Prod.mk.inj hq
                have hroom := wk_room hx hI
                repeat refine And.intro rfl ?_
                repeat refine And.intro rfl ?_
                refine And.intro (fun r hr => by rw [List.mem_singleton.1 hr]; rfl) ?_
                repeat refine And.intro rfl ?_
                refine And.intro (by simp only [List.length_append, List.length_nil, List.length_cons, List.length_map] at *; unfold big at *; omega) ?_
                refine And.intro rfl (And.intro rfl ⟨rfl, rfl, ?_, ?_, ?_⟩)
                all_goals (repeat' first | exact rfl | exact trivial | exact ltM_ent | exact put_tab | exact put_tab2 | exact row_app1 _ _ _ _ _ | refine And.intro ?_ ?_)
            | cons y ys =>
              repeat refine And.intro rfl ?_
              refine And.intro (fun h1 => ?_) (fun h1 => ?_)
              · have hlt : i < (readsF s.kind ms x).length := lt_map h1
                have hy : (readsF s.kind ms x)[i] ∈ N := hin x hx _ (List.getElem_mem hlt)
                have hc := i_walk s ms hm all N hN hin k 9 (readsF s.kind ms x)[i] ⟨st1, (y :: ys)⟩ hy hI.ok (by have := hI.white; omega)
                rw [walkL_drop hlt] at hE
                generalize hv : walk (readsF s.kind ms) k (readsF s.kind ms x)[i] ⟨st1, (y :: ys)⟩ = v at hc hE
                obtain ⟨b3, st3, out3⟩ := v
                have hO : ∃ t, out3 = (y :: ys) ++ t := by
                  have := walk_out (readsF s.kind ms) k (readsF s.kind ms x)[i] ⟨st1, (y :: ys)⟩
                  rw [hv] at this; exact this
                have hT3 : ∃ t, out3 = [] ++ t := by
                  obtain ⟨t, ht⟩ := hT
                  obtain ⟨t2, ht2⟩ := hO
                  exact ⟨t ++ t2, by rw [ht2, ← List.append_assoc]; exact congrArg (· ++ t2) ht⟩
                repeat refine And.intro rfl ?_
                refine ix_atw (e := eB) (xs := (readsF s.kind ms x)) (hlt) (rfl) rfl ?_
                repeat refine And.intro rfl ?_
                cases out3 with
                | nil =>
                  obtain ⟨t, ht⟩ := hO
                  cases ht
                | cons z zs =>
                  cases b3 with
                  | false =>
                    refine Or.inr (Or.inl (Exists.intro _ (Exists.intro _ (And.intro hc ?_))))
                    repeat refine And.intro rfl ?_
                    refine And.intro (fun _ => ?_) (fun h => absurd h (by simp))
                    rw [walk_no g1' g2' hE] at hq
                    obtain ⟨rfl, rfl⟩ := Prod.mk.inj hq
                    refine And.intro rfl (And.intro rfl ⟨rfl, rfl, ?_, ?_, ?_⟩)
                    all_goals (repeat' first | exact rfl | exact trivial | exact ltM_ent | refine And.intro ?_ ?_)
                  | true =>
                    refine Or.inr (Or.inl (Exists.intro _ (Exists.intro _ (And.intro hc ?_))))
                    repeat refine And.intro rfl ?_
                    refine And.intro (fun h => absurd h (by simp)) (fun _ => ?_)
                    repeat refine And.intro rfl ?_
                    refine ⟨_, _, _, ⟨i + 1, ⟨st3, (z :: zs)⟩, rfl, hlt, ⟨hE, wk_next hin hI hk hy hv, hT3⟩, rfl, rfl⟩, by omega, rfl, rfl, ?_, ?_, ?_⟩
                    all_goals (repeat' first | exact rfl | exact trivial | exact nd (wrap_succ hlt hs) | exact ltM_ent | refine And.intro ?_ ?_)
              · rw [walkL_end (ge_map h1)] at hE
                rw [walk_yes g1' g2' hE] at hq
                obtain ⟨rfl, rfl⟩ := Prod.mk.inj hq
                have hroom := wk_room hx hI
                repeat refine And.intro rfl ?_
                repeat refine And.intro rfl ?_
                refine And.intro (fun r hr => by rw [List.mem_singleton.1 hr]; rfl) ?_
                repeat refine And.intro rfl ?_
                refine And.intro (by simp only [List.length_append, List.length_nil, List.length_cons, List.length_map] at *; unfold big at *; omega) ?_
                refine And.intro rfl (And.intro rfl ⟨rfl, rfl, ?_, ?_, ?_⟩)
                all_goals (repeat' first | exact rfl | exact trivial | exact ltM_ent | exact put_tab | exact put_tab2 | exact row_app1 _ _ _ _ _ | refine And.intro ?_ ?_)
      · refine ⟨_, e1, ?_⟩
        repeat refine And.intro rfl ?_
        refine And.intro (fun g1 => ?_) (fun g1 => ?_)
        · have g1' : (lk st x == 1) = true := by first | exact g1 | (rw [e1]; exact g1)
          rw [walk_one g1'] at hq
          obtain ⟨rfl, rfl⟩ := Prod.mk.inj hq
          refine And.intro rfl (And.intro rfl ⟨rfl, rfl, ?_, ?_, ?_⟩)
          all_goals (repeat' first | exact rfl | exact trivial | exact ltM_ent | refine And.intro ?_ ?_)
        · have g1' : (lk st x == 1) = false := by first | exact g1 | (rw [e1]; exact g1)
          repeat refine And.intro rfl ?_
          refine And.intro (fun g2 => ?_) (fun g2 => ?_)
          · have g2' : (lk st x == 2) = true := by first | exact g2 | (rw [e1]; exact g2)
            rw [walk_two g1' g2'] at hq
            obtain ⟨rfl, rfl⟩ := Prod.mk.inj hq
            refine And.intro rfl (And.intro rfl ⟨rfl, rfl, ?_, ?_, ?_⟩)
            all_goals (repeat' first | exact rfl | exact trivial | exact ltM_ent | refine And.intro ?_ ?_)
          · have g2' : (lk st x == 2) = false := by first | exact g2 | (rw [e1]; exact g2)
            repeat refine And.intro rfl ?_
            refine Or.inr (Or.inl (Exists.intro _ (Exists.intro _ (And.intro (i_reads _ s ms hm all (mapPut (st.map entW) [.str x] (.d (.int .i64 1))) (fun n => by rw [put_ent]; exact ltM_ent) (fun i b => by rw [put_ent]; exact subM_ent) [] x) ?_))))
            have hs : (readsF s.kind ms x).length ≤ big := by
              have := reads_len (k := s.kind) (n := x) (ms := ms)
              unfold big; omega
            repeat refine And.intro rfl ?_
            refine ⟨fun m l h => ∃ (i : Nat) (u : Wk), m = (readsF s.kind ms x).length - i ∧ i ≤ (readsF s.kind ms x).length ∧ (walkL (walk (readsF s.kind ms) k) (readsF s.kind ms x) ⟨pt st x 1, []⟩ = walkL (walk (readsF s.kind ms) k) ((readsF s.kind ms x).drop i) u ∧ WkIn (readsF s.kind ms) N x ⟨st, []⟩ u ∧ ∃ t, u.out = [] ++ t) ∧ l = [(0, .d (.str x)), (1, .ptr 6 0), (2, .ptr 4 0), (3, .ptr 8 0), (4, .ptr 7 0), (20, .d (lS (readsF s.kind ms x))), (21, .d (.int .i64 ((readsF s.kind ms x).map eB).length)), (22, .d (.int .i64 i))] ∧ h = hW 9 s ms all u,
              ⟨_, _, _, ⟨0, _, rfl, Nat.zero_le _, ⟨rfl, wk_start hx hwk g1' g2', [], by simp⟩, rfl, rfl⟩, rfl, rfl, ⟨rfl, rfl, rfl, rfl, rfl, rfl, rfl, rfl, trivial⟩, (by repeat' first|exact rfl|exact trivial|exact ltM_ent|refine And.intro ?_ ?_), (by repeat' first|exact rfl|exact trivial|exact put_tab|refine And.intro ?_ ?_)⟩, ?_⟩
            rintro m l hh ⟨i, u, rfl, hi, hr, rfl, rfl⟩
            obtain ⟨hE, hI, hT⟩ := hr
            obtain ⟨st1, out1⟩ := u
            cases out1 with
            | nil =>
              repeat refine And.intro rfl ?_
              refine And.intro (fun h1 => ?_) (fun h1 => ?_)
              · have hlt : i < (readsF s.kind ms x).length := lt_map h1
                have hy : (readsF s.kind ms x)[i] ∈ N := hin x hx _ (List.getElem_mem hlt)
                have hc := i_walk s ms hm all N hN hin k 9 (readsF s.kind ms x)[i] ⟨st1, []⟩ hy hI.ok (by have := hI.white; omega)
                rw [walkL_drop hlt] at hE
                generalize hv : walk (readsF s.kind ms) k (readsF s.kind ms x)[i] ⟨st1, []⟩ = v at hc hE
                obtain ⟨b3, st3, out3⟩ := v
                have hO : ∃ t, out3 = [] ++ t := by
                  have := walk_out (readsF s.kind ms) k (readsF s.kind ms x)[i] ⟨st1, []⟩
                  rw [hv] at this; exact this
                have hT3 : ∃ t, out3 = [] ++ t := by
                  obtain ⟨t, ht⟩ := hT
                  obtain ⟨t2, ht2⟩ := hO
                  exact ⟨t ++ t2, by rw [ht2, ← List.append_assoc]; exact congrArg (· ++ t2) ht⟩
                repeat refine And.intro rfl ?_
                refine ix_atw (e := eB) (xs := (readsF s.kind ms x)) (hlt) (rfl) rfl ?_
                repeat refine And.intro rfl ?_
                cases out3 with
                | nil =>
                  cases b3 with
                  | false =>
                    refine Or.inr (Or.inl (Exists.intro _ (Exists.intro _ (And.intro hc ?_))))
                    repeat refine And.intro rfl ?_
                    refine And.intro (fun _ => ?_) (fun h => absurd h (by simp))
                    rw [walk_no g1' g2' hE] at hq
                    obtain ⟨rfl, rfl⟩ := Prod.mk.inj hq
                    refine And.intro rfl (And.intro rfl ⟨rfl, rfl, ?_, ?_, ?_⟩)
                    all_goals (repeat' first | exact rfl | exact trivial | exact ltM_ent | refine And.intro ?_ ?_)
                  | true =>
                    refine Or.inr (Or.inl (Exists.intro _ (Exists.intro _ (And.intro hc ?_))))
                    repeat refine And.intro rfl ?_
                    refine And.intro (fun h => absurd h (by simp)) (fun _ => ?_)
                    repeat refine And.intro rfl ?_
                    refine ⟨_, _, _, ⟨i + 1, ⟨st3, []⟩, rfl, hlt, ⟨hE, wk_next hin hI hk hy hv, hT3⟩, rfl, rfl⟩, by omega, rfl, rfl, ?_, ?_, ?_⟩
                    all_goals (repeat' first | exact rfl | exact trivial | exact nd (wrap_succ hlt hs) | exact ltM_ent | refine And.intro ?_ ?_)
                | cons z zs =>
                  cases b3 with
                  | false =>
                    refine Or.inr (Or.inl (Exists.intro _ (Exists.intro _ (And.intro hc ?_))))
                    repeat refine And.intro rfl ?_
                    refine And.intro (fun _ => ?_) (fun h => absurd h (by simp))
                    rw [walk_no g1' g2' hE] at hq
                    obtain ⟨rfl, rfl⟩ := Prod.mk.inj hq
                    refine And.intro rfl (And.intro rfl ⟨rfl, rfl, ?_, ?_, ?_⟩)
                    all_goals (repeat' first | exact rfl | exact trivial | exact ltM_ent | refine And.intro ?_ ?_)
                  | true =>
                    refine Or.inr (Or.inl (Exists.intro _ (Exists.intro _ (And.intro hc ?_))))
                    repeat refine And.intro rfl ?_
                    refine And.intro (fun h => absurd h (by simp)) (fun _ => ?_)
                    repeat refine And.intro rfl ?_
                    refine ⟨_, _, _, ⟨i + 1, ⟨st3, (z :: zs)⟩, rfl, hlt, ⟨hE, wk_next hin hI hk hy hv, hT3⟩, rfl, rfl⟩, by omega, rfl, rfl, ?_, ?_, ?_⟩
                    all_goals (repeat' first | exact rfl | exact trivial | exact nd (wrap_succ hlt hs) | exact ltM_ent | refine And.intro ?_ ?_)
              · rw [walkL_end (ge_map h1)] at hE
                rw [walk_yes g1' g2' hE] at hq
                obtain ⟨rfl, rfl⟩ := Prod.mk.inj hq
                have hroom := wk_room hx hI
                repeat refine And.intro rfl ?_
                repeat refine And.intro rfl ?_
                refine And.intro (fun r hr => by rw [List.mem_singleton.1 hr]; rfl) ?_
                repeat refine And.intro rfl ?_
                refine And.intro (by simp only [List.length_append, List.length_nil, List.length_cons, List.length_map] at *; unfold big at *; omega) ?_
                refine And.intro rfl (And.intro rfl ⟨rfl, rfl, ?_, ?_, ?_⟩)
                all_goals (repeat' first | exact rfl | exact trivial | exact ltM_ent | exact put_tab | exact put_tab2 | exact row_app1 _ _ _ _ _ | refine And.intro ?_ ?_)
            | cons y ys =>
              repeat refine And.intro rfl ?_
              refine And.intro (fun h1 => ?_) (fun h1 => ?_)
              · have hlt : i < (readsF s.kind ms x).length := lt_map h1
                have hy : (readsF s.kind ms x)[i] ∈ N := hin x hx _ (List.getElem_mem hlt)
                have hc := i_walk s ms hm all N hN hin k 9 (readsF s.kind ms x)[i] ⟨st1, (y :: ys)⟩ hy hI.ok (by have := hI.white; omega)
                rw [walkL_drop hlt] at hE
                generalize hv : walk (readsF s.kind ms) k (readsF s.kind ms x)[i] ⟨st1, (y :: ys)⟩ = v at hc hE
                obtain ⟨b3, st3, out3⟩ := v
                have hO : ∃ t, out3 = (y :: ys) ++ t := by
                  have := walk_out (readsF s.kind ms) k (readsF s.kind ms x)[i] ⟨st1, (y :: ys)⟩
                  rw [hv] at this; exact this
                have hT3 : ∃ t, out3 = [] ++ t := by
                  obtain ⟨t, ht⟩ := hT
                  obtain ⟨t2, ht2⟩ := hO
                  exact ⟨t ++ t2, by rw [ht2, ← List.append_assoc]; exact congrArg (· ++ t2) ht⟩
                repeat refine And.intro rfl ?_
                refine ix_atw (e := eB) (xs := (readsF s.kind ms x)) (hlt) (rfl) rfl ?_
                repeat refine And.intro rfl ?_
                cases out3 with
                | nil =>
                  obtain ⟨t, ht⟩ := hO
                  cases ht
                | cons z zs =>
                  cases b3 with
                  | false =>
                    refine Or.inr (Or.inl (Exists.intro _ (Exists.intro _ (And.intro hc ?_))))
                    repeat refine And.intro rfl ?_
                    refine And.intro (fun _ => ?_) (fun h => absurd h (by simp))
                    rw [walk_no g1' g2' hE] at hq
                    obtain ⟨rfl, rfl⟩ := Prod.mk.inj hq
                    refine And.intro rfl (And.intro rfl ⟨rfl, rfl, ?_, ?_, ?_⟩)
                    all_goals (repeat' first | exact rfl | exact trivial | exact ltM_ent | refine And.intro ?_ ?_)
                  | true =>
                    refine Or.inr (Or.inl (Exists.intro _ (Exists.intro _ (And.intro hc ?_))))
                    repeat refine And.intro rfl ?_
                    refine And.intro (fun h => absurd h (by simp)) (fun _ => ?_)
                    repeat refine And.intro rfl ?_
                    refine ⟨_, _, _, ⟨i + 1, ⟨st3, (z :: zs)⟩, rfl, hlt, ⟨hE, wk_next hin hI hk hy hv, hT3⟩, rfl, rfl⟩, by omega, rfl, rfl, ?_, ?_, ?_⟩
                    all_goals (repeat' first | exact rfl | exact trivial | exact nd (wrap_succ hlt hs) | exact ltM_ent | refine And.intro ?_ ?_)
              · rw [walkL_end (ge_map h1)] at hE
                rw [walk_yes g1' g2' hE] at hq
                obtain ⟨rfl, rfl⟩ := Prod.mk.inj hq
                have hroom := wk_room hx hI
                repeat refine And.intro rfl ?_
                repeat refine And.intro rfl ?_
                refine And.intro (fun r hr => by rw [List.mem_singleton.1 hr]; rfl) ?_
                repeat refine And.intro rfl ?_
                refine And.intro (by simp only [List.length_append, List.length_nil, List.length_cons, List.length_map] at *; unfold big at *; omega) ?_
                refine And.intro rfl (And.intro rfl ⟨rfl, rfl, ?_, ?_, ?_⟩)
                all_goals (repeat' first | exact rfl | exact trivial | exact ltM_ent | exact put_tab | exact put_tab2 | exact row_app1 _ _ _ _ _ | refine And.intro ?_ ?_)
    | cons a tl =>
      refine HSpec.of_vc vcT vcM [.tmp 6] Tryz.func215 rfl rfl rfl rfl rfl (fun hok => ?_)
      repeat refine And.intro rfl ?_
      rcases look_ent (x := x) st with ⟨e0, e1⟩ | e1
      · refine ⟨_, e0, ?_⟩
        repeat refine And.intro rfl ?_
        refine And.intro (fun g1 => ?_) (fun g1 => ?_)
        · have g1' : (lk st x == 1) = true := by first | exact g1 | (rw [e1]; exact g1)
          rw [walk_one g1'] at hq
          obtain ⟨rfl, rfl⟩ := Prod.mk.inj hq
          refine And.intro rfl (And.intro rfl ⟨rfl, rfl, ?_, ?_, ?_⟩)
          all_goals (repeat' first | exact rfl | exact trivial | exact ltM_ent | refine And.intro ?_ ?_)
        · have g1' : (lk st x == 1) = false := by first | exact g1 | (rw [e1]; exact g1)
          repeat refine And.intro rfl ?_
          refine And.intro (fun g2 => ?_) (fun g2 => ?_)
          · have g2' : (lk st x == 2) = true := by first | exact g2 | (rw [e1]; exact g2)
            rw [walk_two g1' g2'] at hq
            obtain ⟨rfl, rfl⟩ := Prod.mk.inj hq
            refine And.intro rfl (And.intro rfl ⟨rfl, rfl, ?_, ?_, ?_⟩)
            all_goals (repeat' first | exact rfl | exact trivial | exact ltM_ent | refine And.intro ?_ ?_)
          · have g2' : (lk st x == 2) = false := by first | exact g2 | (rw [e1]; exact g2)
            repeat refine And.intro rfl ?_
            refine Or.inr (Or.inl (Exists.intro _ (Exists.intro _ (And.intro (i_reads _ s ms hm all (mapPut (st.map entW) [.str x] (.d (.int .i64 1))) (fun n => by rw [put_ent]; exact ltM_ent) (fun i b => by rw [put_ent]; exact subM_ent) (a :: tl) x) ?_))))
            have hs : (readsF s.kind ms x).length ≤ big := by
              have := reads_len (k := s.kind) (n := x) (ms := ms)
              unfold big; omega
            repeat refine And.intro rfl ?_
            refine ⟨fun m l h => ∃ (i : Nat) (u : Wk), m = (readsF s.kind ms x).length - i ∧ i ≤ (readsF s.kind ms x).length ∧ (walkL (walk (readsF s.kind ms) k) (readsF s.kind ms x) ⟨pt st x 1, (a :: tl)⟩ = walkL (walk (readsF s.kind ms) k) ((readsF s.kind ms x).drop i) u ∧ WkIn (readsF s.kind ms) N x ⟨st, (a :: tl)⟩ u ∧ ∃ t, u.out = (a :: tl) ++ t) ∧ l = [(0, .d (.str x)), (1, .ptr 6 0), (2, .ptr 4 0), (3, .ptr 8 0), (4, .ptr 7 0), (20, .d (lS (readsF s.kind ms x))), (21, .d (.int .i64 ((readsF s.kind ms x).map eB).length)), (22, .d (.int .i64 i))] ∧ h = hW 10 s ms all u,
              ⟨_, _, _, ⟨0, _, rfl, Nat.zero_le _, ⟨rfl, wk_start hx hwk g1' g2', [], by simp⟩, rfl, rfl⟩, rfl, rfl, ⟨rfl, rfl, rfl, rfl, rfl, rfl, rfl, rfl, trivial⟩, (by repeat' first|exact rfl|exact trivial|exact ltM_ent|refine And.intro ?_ ?_), (by repeat' first|exact rfl|exact trivial|exact put_tab|refine And.intro ?_ ?_)⟩, ?_⟩
            rintro m l hh ⟨i, u, rfl, hi, hr, rfl, rfl⟩
            obtain ⟨hE, hI, hT⟩ := hr
            obtain ⟨st1, out1⟩ := u
            cases out1 with
            | nil =>
              obtain ⟨t, ht⟩ := hT
              cases ht
            | cons y ys =>
              repeat refine And.intro rfl ?_
              refine And.intro (fun h1 => ?_) (fun h1 => ?_)
              · have hlt : i < (readsF s.kind ms x).length := lt_map h1
                have hy : (readsF s.kind ms x)[i] ∈ N := hin x hx _ (List.getElem_mem hlt)
                have hc := i_walk s ms hm all N hN hin k 10 (readsF s.kind ms x)[i] ⟨st1, (y :: ys)⟩ hy hI.ok (by have := hI.white; omega)
                rw [walkL_drop hlt] at hE
                generalize hv : walk (readsF s.kind ms) k (readsF s.kind ms x)[i] ⟨st1, (y :: ys)⟩ = v at hc hE
                obtain ⟨b3, st3, out3⟩ := v
                have hO : ∃ t, out3 = (y :: ys) ++ t := by
                  have := walk_out (readsF s.kind ms) k (readsF s.kind ms x)[i] ⟨st1, (y :: ys)⟩
                  rw [hv] at this; exact this
                have hT3 : ∃ t, out3 = (a :: tl) ++ t := by
                  obtain ⟨t, ht⟩ := hT
                  obtain ⟨t2, ht2⟩ := hO
                  exact ⟨t ++ t2, by rw [ht2, ← List.append_assoc]; exact congrArg (· ++ t2) ht⟩
                repeat refine And.intro rfl ?_
                refine ix_atw (e := eB) (xs := (readsF s.kind ms x)) (hlt) (rfl) rfl ?_
                repeat refine And.intro rfl ?_
                cases out3 with
                | nil =>
                  obtain ⟨t, ht⟩ := hO
                  cases ht
                | cons z zs =>
                  cases b3 with
                  | false =>
                    refine Or.inr (Or.inl (Exists.intro _ (Exists.intro _ (And.intro hc ?_))))
                    repeat refine And.intro rfl ?_
                    refine And.intro (fun _ => ?_) (fun h => absurd h (by simp))
                    rw [walk_no g1' g2' hE] at hq
                    obtain ⟨rfl, rfl⟩ := Prod.mk.inj hq
                    refine And.intro rfl (And.intro rfl ⟨rfl, rfl, ?_, ?_, ?_⟩)
                    all_goals (repeat' first | exact rfl | exact trivial | exact ltM_ent | refine And.intro ?_ ?_)
                  | true =>
                    refine Or.inr (Or.inl (Exists.intro _ (Exists.intro _ (And.intro hc ?_))))
                    repeat refine And.intro rfl ?_
                    refine And.intro (fun h => absurd h (by simp)) (fun _ => ?_)
                    repeat refine And.intro rfl ?_
                    refine ⟨_, _, _, ⟨i + 1, ⟨st3, (z :: zs)⟩, rfl, hlt, ⟨hE, wk_next hin hI hk hy hv, hT3⟩, rfl, rfl⟩, by omega, rfl, rfl, ?_, ?_, ?_⟩
                    all_goals (repeat' first | exact rfl | exact trivial | exact nd (wrap_succ hlt hs) | exact ltM_ent | refine And.intro ?_ ?_)
              · rw [walkL_end (ge_map h1)] at hE
                rw [walk_yes g1' g2' hE] at hq
                obtain ⟨rfl, rfl⟩ := Prod.mk.inj hq
                have hroom := wk_room hx hI
                repeat refine And.intro rfl ?_
                repeat refine And.intro rfl ?_
                refine And.intro (fun r hr => by rw [List.mem_singleton.1 hr]; rfl) ?_
                repeat refine And.intro rfl ?_
                refine And.intro (by simp only [List.length_append, List.length_nil, List.length_cons, List.length_map] at *; unfold big at *; omega) ?_
                refine And.intro rfl (And.intro rfl ⟨rfl, rfl, ?_, ?_, ?_⟩)
                all_goals (repeat' first | exact rfl | exact trivial | exact ltM_ent | exact put_tab | exact put_tab2 | exact row_app1 _ _ _ _ _ | refine And.intro ?_ ?_)
      · refine ⟨_, e1, ?_⟩
        repeat refine And.intro rfl ?_
        refine And.intro (fun g1 => ?_) (fun g1 => ?_)
        · have g1' : (lk st x == 1) = true := by first | exact g1 | (rw [e1]; exact g1)
          rw [walk_one g1'] at hq
          obtain ⟨rfl, rfl⟩ := Prod.mk.inj hq
          refine And.intro rfl (And.intro rfl ⟨rfl, rfl, ?_, ?_, ?_⟩)
          all_goals (repeat' first | exact rfl | exact trivial | exact ltM_ent | refine And.intro ?_ ?_)
        · have g1' : (lk st x == 1) = false := by first | exact g1 | (rw [e1]; exact g1)
          repeat refine And.intro rfl ?_
          refine And.intro (fun g2 => ?_) (fun g2 => ?_)
          · have g2' : (lk st x == 2) = true := by first | exact g2 | (rw [e1]; exact g2)
            rw [walk_two g1' g2'] at hq
            obtain ⟨rfl, rfl⟩ := Prod.mk.inj hq
            refine And.intro rfl (And.intro rfl ⟨rfl, rfl, ?_, ?_, ?_⟩)
            all_goals (repeat' first | exact rfl | exact trivial | exact ltM_ent | refine And.intro ?_ ?_)
          · have g2' : (lk st x == 2) = false := by first | exact g2 | (rw [e1]; exact g2)
            repeat refine And.intro rfl ?_
            refine Or.inr (Or.inl (Exists.intro _ (Exists.intro _ (And.intro (i_reads _ s ms hm all (mapPut (st.map entW) [.str x] (.d (.int .i64 1))) (fun n => by rw [put_ent]; exact ltM_ent) (fun i b => by rw [put_ent]; exact subM_ent) (a :: tl) x) ?_))))
            have hs : (readsF s.kind ms x).length ≤ big := by
              have := reads_len (k := s.kind) (n := x) (ms := ms)
              unfold big; omega
            repeat refine And.intro rfl ?_
            refine ⟨fun m l h => ∃ (i : Nat) (u : Wk), m = (readsF s.kind ms x).length - i ∧ i ≤ (readsF s.kind ms x).length ∧ (walkL (walk (readsF s.kind ms) k) (readsF s.kind ms x) ⟨pt st x 1, (a :: tl)⟩ = walkL (walk (readsF s.kind ms) k) ((readsF s.kind ms x).drop i) u ∧ WkIn (readsF s.kind ms) N x ⟨st, (a :: tl)⟩ u ∧ ∃ t, u.out = (a :: tl) ++ t) ∧ l = [(0, .d (.str x)), (1, .ptr 6 0), (2, .ptr 4 0), (3, .ptr 8 0), (4, .ptr 7 0), (20, .d (lS (readsF s.kind ms x))), (21, .d (.int .i64 ((readsF s.kind ms x).map eB).length)), (22, .d (.int .i64 i))] ∧ h = hW 10 s ms all u,
              ⟨_, _, _, ⟨0, _, rfl, Nat.zero_le _, ⟨rfl, wk_start hx hwk g1' g2', [], by simp⟩, rfl, rfl⟩, rfl, rfl, ⟨rfl, rfl, rfl, rfl, rfl, rfl, rfl, rfl, trivial⟩, (by repeat' first|exact rfl|exact trivial|exact ltM_ent|refine And.intro ?_ ?_), (by repeat' first|exact rfl|exact trivial|exact put_tab|refine And.intro ?_ ?_)⟩, ?_⟩
            rintro m l hh ⟨i, u, rfl, hi, hr, rfl, rfl⟩
            obtain ⟨hE, hI, hT⟩ := hr
            obtain ⟨st1, out1⟩ := u
            cases out1 with
            | nil =>
              obtain ⟨t, ht⟩ := hT
              cases ht
            | cons y ys =>
              repeat refine And.intro rfl ?_
              refine And.intro (fun h1 => ?_) (fun h1 => ?_)
              · have hlt : i < (readsF s.kind ms x).length := lt_map h1
                have hy : (readsF s.kind ms x)[i] ∈ N := hin x hx _ (List.getElem_mem hlt)
                have hc := i_walk s ms hm all N hN hin k 10 (readsF s.kind ms x)[i] ⟨st1, (y :: ys)⟩ hy hI.ok (by have := hI.white; omega)
                rw [walkL_drop hlt] at hE
                generalize hv : walk (readsF s.kind ms) k (readsF s.kind ms x)[i] ⟨st1, (y :: ys)⟩ = v at hc hE
                obtain ⟨b3, st3, out3⟩ := v
                have hO : ∃ t, out3 = (y :: ys) ++ t := by
                  have := walk_out (readsF s.kind ms) k (readsF s.kind ms x)[i] ⟨st1, (y :: ys)⟩
                  rw [hv] at this; exact this
                have hT3 : ∃ t, out3 = (a :: tl) ++ t := by
                  obtain ⟨t, ht⟩ := hT
                  obtain ⟨t2, ht2⟩ := hO
                  exact ⟨t ++ t2, by rw [ht2, ← List.append_assoc]; exact congrArg (· ++ t2) ht⟩
                repeat refine And.intro rfl ?_
                refine ix_atw (e := eB) (xs := (readsF s.kind ms x)) (hlt) (rfl) rfl ?_
                repeat refine And.intro rfl ?_
                cases out3 with
                | nil =>
                  obtain ⟨t, ht⟩ := hO
                  cases ht
                | cons z zs =>
                  cases b3 with
                  | false =>
                    refine Or.inr (Or.inl (Exists.intro _ (Exists.intro _ (And.intro hc ?_))))
                    repeat refine And.intro rfl ?_
                    refine And.intro (fun _ => ?_) (fun h => absurd h (by simp))
                    rw [walk_no g1' g2' hE] at hq
                    obtain ⟨rfl, rfl⟩ := Prod.mk.inj hq
                    refine And.intro rfl (And.intro rfl ⟨rfl, rfl, ?_, ?_, ?_⟩)
                    all_goals (repeat' first | exact rfl | exact trivial | exact ltM_ent | refine And.intro ?_ ?_)
                  | true =>
                    refine Or.inr (Or.inl (Exists.intro _ (Exists.intro _ (And.intro hc ?_))))
                    repeat refine And.intro rfl ?_
                    refine And.intro (fun h => absurd h (by simp)) (fun _ => ?_)
                    repeat refine And.intro rfl ?_
                    refine ⟨_, _, _, ⟨i + 1, ⟨st3, (z :: zs)⟩, rfl, hlt, ⟨hE, wk_next hin hI hk hy hv, hT3⟩, rfl, rfl⟩, by omega, rfl, rfl, ?_, ?_, ?_⟩
                    all_goals (repeat' first | exact rfl | exact trivial | exact nd (wrap_succ hlt hs) | exact ltM_ent | refine And.intro ?_ ?_)
              · rw [walkL_end (ge_map h1)] at hE
                rw [walk_yes g1' g2' hE] at hq
                obtain ⟨rfl, rfl⟩ := Prod.mk.inj hq
                have hroom := wk_room hx hI
                repeat refine And.intro rfl ?_
                repeat refine And.intro rfl ?_
                refine And.intro (fun r hr => by rw [List.mem_singleton.1 hr]; rfl) ?_
                repeat refine And.intro rfl ?_
                refine And.intro (by simp only [List.length_append, List.length_nil, List.length_cons, List.length_map] at *; unfold big at *; omega) ?_
                refine And.intro rfl (And.intro rfl ⟨rfl, rfl, ?_, ?_, ?_⟩)
                all_goals (repeat' first | exact rfl | exact trivial | exact ltM_ent | exact put_tab | exact put_tab2 | exact row_app1 _ _ _ _ _ | refine And.intro ?_ ?_)
end Go.Vc
end

section
namespace Go.Vc
open Go.Proofs
set_option maxRecDepth 100000
set_option pp.maxSteps 400
set_option pp.deepTerms false
set_option linter.unusedSimpArgs false
set_option linter.unusedVariables false
/-- a row as the program finds it -/
def rowP (rd : Bs → List Bs) (all : List Bs) : List Bs × Bool := match walkL (walk rd (all.length + 1)) all wk0 with
  | (true, u) => (u.out, true)
  | (false, _) => ([], false)
theorem rowP_ok {rd : Bs → List Bs} {all : List Bs} : (rowP rd all).2 = (walkL (walk rd (all.length + 1)) all wk0).1 := by
  unfold rowP
  split <;> (rename_i h; rw [h])
theorem rowP_no {rd : Bs → List Bs} {all : List Bs} {u : Wk} (h : walkL (walk rd (all.length + 1)) all wk0 = (false, u)) : rowP rd all = ([], false) := by
  unfold rowP; rw [h]
theorem rowP_yes {rd : Bs → List Bs} {all : List Bs} {u : Wk} (h : walkL (walk rd (all.length + 1)) all wk0 = (true, u)) : rowP rd all = (u.out, true) := by
  unfold rowP; rw [h]
def hA (lo nx : Nat) (s : GateShape) (ms : List GateMend) : Heap := ⟨[(1, oM ms), (0, oS s)], nx, lo⟩
theorem i_row (s : GateShape) (ms : List GateMend) (hm : ms.length ≤ 12) (all : List Bs) (hN : all.length ≤ big) (hin : ∀ n ∈ all, ∀ y ∈ readsF s.kind ms n, y ∈ all) (lo : Nat) :
    HSpec P 200 [.d (lS all), fnReads] (hA lo 4 s ms) (.tup [.d (lS (rowP (readsF s.kind ms) all).1), .d (.bool (rowP (readsF s.kind ms) all).2)]) (hA lo 4 s ms) := by
  refine HSpec.of_vc vcT vcM [.tmp 4, .tmp 5] Tryz.func200 rfl rfl rfl rfl rfl (fun hok => ?_)
  have hs := hN
  repeat refine And.intro rfl ?_
  refine ⟨fun m l h => ∃ (i : Nat) (u : Wk), m = all.length - i ∧ i ≤ all.length ∧ (walkL (walk (readsF s.kind ms) (all.length + 1)) all wk0 = walkL (walk (readsF s.kind ms) (all.length + 1)) (all.drop i) u ∧ WkOk (readsF s.kind ms) all u) ∧ l = [(7, .ptr 7 0), (8, .ptr 8 0), (13, .d (lS all)), (14, .d (.int .i64 (all.map eB).length)), (15, .d (.int .i64 i))] ∧ h = hW 4 s ms all u,
    ⟨_, _, _, ⟨0, _, rfl, Nat.zero_le _, ⟨rfl, wk0_ok _ _⟩, rfl, rfl⟩, rfl, rfl, ⟨rfl, rfl, rfl, rfl, rfl, trivial⟩, (by repeat' first|exact rfl|exact trivial|exact ltM_ent|refine And.intro ?_ ?_), (by repeat' first|exact rfl|exact trivial|refine And.intro ?_ ?_)⟩, ?_⟩
  rintro m l hh ⟨i, u, rfl, hi, hr, rfl, rfl⟩
  obtain ⟨hE, hI⟩ := hr
  obtain ⟨st1, out1⟩ := u
  cases out1 with
  | nil =>
    repeat refine And.intro rfl ?_
    refine And.intro (fun h1 => ?_) (fun h1 => ?_)
    · have hlt : i < all.length := lt_map h1
      have hy : all[i] ∈ all := List.getElem_mem hlt
      have hwl : white all ⟨st1, []⟩ < all.length + 1 := Nat.lt_succ_of_le (white_len _ _)
      have hc := i_walk s ms hm all all hN hin (all.length + 1) 4 all[i] ⟨st1, []⟩ hy hI hwl
      have hg := walk_good hin (all.length + 1) all[i] ⟨st1, []⟩ hy hI hwl
      rw [walkL_drop hlt] at hE
      generalize hv : walk (readsF s.kind ms) (all.length + 1) all[i] ⟨st1, []⟩ = v at hc hE hg
      obtain ⟨b3, st3, out3⟩ := v
      repeat refine And.intro rfl ?_
      refine ix_at (e := eB) (xs := all) (hlt) rfl ?_
      repeat refine And.intro rfl ?_
      cases b3 with
      | false =>
        cases out3 with
        | nil =>
          rw [rowP_no hE]
          refine Or.inr (Or.inl (Exists.intro _ (Exists.intro _ (And.intro hc ?_))))
          repeat refine And.intro rfl ?_
          refine And.intro (fun _ => ?_) (fun h => absurd h (by simp))
          refine And.intro rfl (And.intro rfl ⟨rfl, rfl, ?_, ?_, ?_⟩)
          all_goals (repeat' first | exact rfl | exact trivial | exact ltM_ent | refine And.intro ?_ ?_)
        | cons z zs =>
          rw [rowP_no hE]
          refine Or.inr (Or.inl (Exists.intro _ (Exists.intro _ (And.intro hc ?_))))
          repeat refine And.intro rfl ?_
          refine And.intro (fun _ => ?_) (fun h => absurd h (by simp))
          refine And.intro rfl (And.intro rfl ⟨rfl, rfl, ?_, ?_, ?_⟩)
          all_goals (repeat' first | exact rfl | exact trivial | exact ltM_ent | refine And.intro ?_ ?_)
      | true =>
        have hok3 : WkOk (readsF s.kind ms) all ⟨st3, out3⟩ := (hg.1 rfl).1
        cases out3 with
        | nil =>
          refine Or.inr (Or.inl (Exists.intro _ (Exists.intro _ (And.intro hc ?_))))
          repeat refine And.intro rfl ?_
          refine And.intro (fun h => absurd h (by simp)) (fun _ => ?_)
          repeat refine And.intro rfl ?_
          refine ⟨_, _, _, ⟨i + 1, ⟨st3, []⟩, rfl, hlt, ⟨hE, hok3⟩, rfl, rfl⟩, by omega, rfl, rfl, ?_, ?_, ?_⟩
          all_goals (repeat' first | exact rfl | exact trivial | exact nd (wrap_succ hlt hs) | exact ltM_ent | refine And.intro ?_ ?_)
        | cons z zs =>
          refine Or.inr (Or.inl (Exists.intro _ (Exists.intro _ (And.intro hc ?_))))
          repeat refine And.intro rfl ?_
          refine And.intro (fun h => absurd h (by simp)) (fun _ => ?_)
          repeat refine And.intro rfl ?_
          refine ⟨_, _, _, ⟨i + 1, ⟨st3, (z :: zs)⟩, rfl, hlt, ⟨hE, hok3⟩, rfl, rfl⟩, by omega, rfl, rfl, ?_, ?_, ?_⟩
          all_goals (repeat' first | exact rfl | exact trivial | exact nd (wrap_succ hlt hs) | exact ltM_ent | refine And.intro ?_ ?_)
    · rw [walkL_end (ge_map h1)] at hE
      rw [rowP_yes hE]
      refine And.intro rfl (And.intro rfl ⟨rfl, rfl, ?_, ?_, ?_⟩)
      all_goals (repeat' first | exact rfl | exact trivial | exact ltM_ent | refine And.intro ?_ ?_)
  | cons y ys =>
    repeat refine And.intro rfl ?_
    refine And.intro (fun h1 => ?_) (fun h1 => ?_)
    · have hlt : i < all.length := lt_map h1
      have hy : all[i] ∈ all := List.getElem_mem hlt
      have hwl : white all ⟨st1, (y :: ys)⟩ < all.length + 1 := Nat.lt_succ_of_le (white_len _ _)
      have hc := i_walk s ms hm all all hN hin (all.length + 1) 4 all[i] ⟨st1, (y :: ys)⟩ hy hI hwl
      have hg := walk_good hin (all.length + 1) all[i] ⟨st1, (y :: ys)⟩ hy hI hwl
      rw [walkL_drop hlt] at hE
      generalize hv : walk (readsF s.kind ms) (all.length + 1) all[i] ⟨st1, (y :: ys)⟩ = v at hc hE hg
      obtain ⟨b3, st3, out3⟩ := v
      repeat refine And.intro rfl ?_
      refine ix_at (e := eB) (xs := all) (hlt) rfl ?_
      repeat refine And.intro rfl ?_
      cases b3 with
      | false =>
        cases out3 with
        | nil =>
          rw [rowP_no hE]
          refine Or.inr (Or.inl (Exists.intro _ (Exists.intro _ (And.intro hc ?_))))
          repeat refine And.intro rfl ?_
          refine And.intro (fun _ => ?_) (fun h => absurd h (by simp))
          refine And.intro rfl (And.intro rfl ⟨rfl, rfl, ?_, ?_, ?_⟩)
          all_goals (repeat' first | exact rfl | exact trivial | exact ltM_ent | refine And.intro ?_ ?_)
        | cons z zs =>
          rw [rowP_no hE]
          refine Or.inr (Or.inl (Exists.intro _ (Exists.intro _ (And.intro hc ?_))))
          repeat refine And.intro rfl ?_
          refine And.intro (fun _ => ?_) (fun h => absurd h (by simp))
          refine And.intro rfl (And.intro rfl ⟨rfl, rfl, ?_, ?_, ?_⟩)
          all_goals (repeat' first | exact rfl | exact trivial | exact ltM_ent | refine And.intro ?_ ?_)
      | true =>
        have hok3 : WkOk (readsF s.kind ms) all ⟨st3, out3⟩ := (hg.1 rfl).1
        cases out3 with
        | nil =>
          refine Or.inr (Or.inl (Exists.intro _ (Exists.intro _ (And.intro hc ?_))))
          repeat refine And.intro rfl ?_
          refine And.intro (fun h => absurd h (by simp)) (fun _ => ?_)
          repeat refine And.intro rfl ?_
          refine ⟨_, _, _, ⟨i + 1, ⟨st3, []⟩, rfl, hlt, ⟨hE, hok3⟩, rfl, rfl⟩, by omega, rfl, rfl, ?_, ?_, ?_⟩
          all_goals (repeat' first | exact rfl | exact trivial | exact nd (wrap_succ hlt hs) | exact ltM_ent | refine And.intro ?_ ?_)
        | cons z zs =>
          refine Or.inr (Or.inl (Exists.intro _ (Exists.intro _ (And.intro hc ?_))))
          repeat refine And.intro rfl ?_
          refine And.intro (fun h => absurd h (by simp)) (fun _ => ?_)
          repeat refine And.intro rfl ?_
          refine ⟨_, _, _, ⟨i + 1, ⟨st3, (z :: zs)⟩, rfl, hlt, ⟨hE, hok3⟩, rfl, rfl⟩, by omega, rfl, rfl, ?_, ?_, ?_⟩
          all_goals (repeat' first | exact rfl | exact trivial | exact nd (wrap_succ hlt hs) | exact ltM_ent | refine And.intro ?_ ?_)
    · rw [walkL_end (ge_map h1)] at hE
      rw [rowP_yes hE]
      refine And.intro rfl (And.intro rfl ⟨rfl, rfl, ?_, ?_, ?_⟩)
      all_goals (repeat' first | exact rfl | exact trivial | exact ltM_ent | refine And.intro ?_ ?_)
/-- no field at all -/
theorem i_row0 (s : GateShape) (ms : List GateMend) (lo : Nat) : HSpec P 200 [.nils, fnReads] (hA lo 2 s ms) (.tup [.d (lS []), .d (.bool true)]) (hA lo 2 s ms) := by
  refine HSpec.of_vc vcT vcM [.tmp 4, .tmp 5] Tryz.func200 rfl rfl rfl rfl rfl (fun hok => ?_)
  have hs : ([] : List Bs).length ≤ big := Nat.zero_le _
  repeat refine And.intro rfl ?_
  refine ⟨fun m l h => ∃ (i : Nat) , m = ([] : List Bs).length - i ∧ i ≤ ([] : List Bs).length ∧ (True) ∧ l = [(7, .ptr 5 0), (13, .nils), (14, .d (.int .i64 0)), (15, .d (.int .i64 i))] ∧ h = ⟨[(5, .cells 119 [.nils]), (1, oM ms), (0, oS s)], 7, 2⟩,
    ⟨_, _, _, ⟨0, rfl, Nat.zero_le _, trivial, rfl, rfl⟩, rfl, rfl, ⟨rfl, rfl, rfl, rfl, trivial⟩, (by repeat' first|exact rfl|exact trivial|refine And.intro ?_ ?_), (by repeat' first|exact rfl|exact trivial|refine And.intro ?_ ?_)⟩, ?_⟩
  rintro m l hh ⟨i, rfl, hi, hr, rfl, rfl⟩
  repeat refine And.intro rfl ?_
  refine And.intro (fun h1 => ?_) (fun h1 => ?_)
  · exact absurd (of_decide_eq_true h1) (by omega)
  · refine And.intro rfl (And.intro rfl ⟨rfl, rfl, ?_, ?_, ?_⟩)
    all_goals (repeat' first | exact rfl | exact trivial | refine And.intro ?_ ?_)
/-- a row of a kind's fields -/
theorem i_rowOf (s : GateShape) (ms : List GateMend) (hm : ms.length ≤ 12) (hin : ∀ n ∈ namesF s, ∀ y ∈ readsF s.kind ms n, y ∈ namesF s) :
    Spec P 163 [st s.e, .d (lGateMend ms)] (.tup [.d (lS (rowP (readsF s.kind ms) (namesF s)).1), .d (.bool (rowP (readsF s.kind ms) (namesF s)).2)]) := by
  refine Spec.of_vc vcT vcM [.tmp 4, .tmp 5] Tryz.func163 rfl rfl rfl rfl (fun hok => ?_)
  have hs : s.fields.length ≤ big := by
    have := hok.1
    simp only [st, AV.ok, GateShape.e, List.map, okAs] at this
    exact len_map this.2.1.1
  repeat refine And.intro rfl ?_
  refine ⟨fun m l h => ∃ (i : Nat) (A : List Bs), m = s.fields.length - i ∧ i ≤ s.fields.length ∧ (A = (s.fields.take i).map (·.name)) ∧ l = [(2, .ptr 0 0), (3, .ptr 1 0), (6, rowAV 3 A), (10, .d (lGateField s.fields)), (11, .d (.int .i64 (s.fields.map GateField.e).length)), (12, .d (.int .i64 i))] ∧ h = ⟨(rowHp [(1, oM ms), (0, oS s)] 2 3 A).objs, (rowHp [(1, oM ms), (0, oS s)] 2 3 A).nx, 0⟩,
    ⟨_, _, _, ⟨0, _, rfl, Nat.zero_le _, rfl, rfl, rfl⟩, rfl, rfl, ⟨rfl, rfl, rfl, rfl, rfl, rfl, trivial⟩, (by repeat' first|exact rfl|exact trivial|refine And.intro ?_ ?_), (by repeat' first|exact rfl|exact trivial|refine And.intro ?_ ?_)⟩, ?_⟩
  rintro m l hh ⟨i, A, rfl, hi, hr, rfl, rfl⟩
  have hA : A.length ≤ s.fields.length := by rw [hr, List.length_map, List.length_take]; omega
  have hA2 : A.length ≤ i := by rw [hr, List.length_map, List.length_take]; omega
  repeat refine And.intro rfl ?_
  refine And.intro (fun h1 => ?_) (fun h1 => ?_)
  · have hlt : i < s.fields.length := lt_map h1
    have hstep : (s.fields.take (i + 1)).map (·.name) = A ++ [s.fields[i].name] := by
      rw [List.take_succ_eq_append_getElem hlt, List.map_append, ← hr]; rfl
    repeat refine And.intro rfl ?_
    refine ix_at (e := GateField.e) (xs := s.fields) (hlt) rfl ?_
    repeat refine And.intro rfl ?_
    cases A with
    | nil =>
      repeat refine And.intro rfl ?_
      refine And.intro (fun r hr => by rw [List.mem_singleton.1 hr]; rfl) ?_
      repeat refine And.intro rfl ?_
      refine And.intro (by simp only [List.length_nil, List.length_cons, List.length_map] at *; unfold big; omega) ?_
      repeat refine And.intro rfl ?_
      refine ⟨_, _, _, ⟨i + 1, [s.fields[i].name], rfl, hlt, by rw [hstep]; rfl, rfl, rfl⟩, by omega, rfl, rfl, ?_, ?_, ?_⟩
      all_goals (repeat' first | exact rfl | exact trivial | exact nd (wrap_succ hlt hs) | refine And.intro ?_ ?_)
    | cons a tl =>
      repeat refine And.intro rfl ?_
      refine And.intro (fun r hr => by rw [List.mem_singleton.1 hr]; rfl) ?_
      repeat refine And.intro rfl ?_
      refine And.intro (by simp only [List.length_append, List.length_nil, List.length_cons, List.length_map] at *; unfold big at *; omega) ?_
      repeat refine And.intro rfl ?_
      refine ⟨_, _, _, ⟨i + 1, (a :: (tl ++ [s.fields[i].name])), rfl, hlt, by rw [hstep]; rfl, rfl, rfl⟩, by omega, rfl, rfl, ?_, ?_, ?_⟩
      all_goals (repeat' first | exact rfl | exact trivial | exact nd (wrap_succ hlt hs) | exact row_app1 _ _ _ _ _ | refine And.intro ?_ ?_)
  · have ha : A = namesF s := by rw [hr, List.take_of_length_le (ge_map h1)]; rfl
    rw [← ha] at hin ⊢
    cases A with
    | nil =>
      repeat refine And.intro rfl ?_
      refine Or.inr (Or.inl (Exists.intro _ (Exists.intro _ (And.intro (i_row0 s ms _) ?_))))
      rfl
    | cons a tl =>
      repeat refine And.intro rfl ?_
      refine Or.inr (Or.inr (Or.inl (Exists.intro _ (Exists.intro _ (And.intro (i_row s ms hm (a :: tl) (Nat.le_trans hA hs) hin _) ?_)))))
      rfl
def rowOk (s : GateShape) (ms : List GateMend) : Bool := ((rowF s ms).length : Int) == (s.fields.length : Int)
theorem rowP_rowOk {xs : List GateShape} {ms : List GateMend} (h : shapesOk xs = true) (hm : ms.all (mendOkF xs) = true) {s : GateShape} (hs : s ∈ xs) : (rowP (readsF s.kind ms) (namesF s)).2 = rowOk s ms := by
  rw [rowP_ok, walk_greedy (shapes_nodup h hs) (fun n _ => reads_in h hm hs n)]
  have e : (namesF s).length = s.fields.length := by rw [namesF, List.length_map]
  unfold rowOk rowF gr
  rw [e, Bool.eq_iff_iff, decide_eq_true_eq, beq_iff_eq]
  omega
theorem mendOk_at {xs : List GateShape} {m : GateMend} {j : Nat} (hj : j < xs.length) (e : idx (·.kind == m.kind) xs = (j : Int)) : mendOkF xs m = mendF xs[j].fields m := by
  unfold mendOkF
  rw [e, Int.toNat_natCast, List.getElem?_eq_getElem hj]
  have : decide ((j : Int) ≥ 0) = true := decide_eq_true (by omega)
  simp only [this, Bool.true_and]
theorem mendOk_none {xs : List GateShape} {m : GateMend} (h : decide (idx (·.kind == m.kind) xs < 0) = true) : mendOkF xs m = false := by
  have h' : decide (idx (·.kind == m.kind) xs ≥ 0) = false := decide_eq_false (by have := of_decide_eq_true h; omega)
  unfold mendOkF
  split <;> simp only [h', Bool.false_and]
theorem i_GateMendsOk (xs : List GateShape) (ms : List GateMend) : Spec P 121 [.d (lGateShape xs), .d (lGateMend ms)] (.d (.bool (mendsOk xs ms))) := by
  refine Spec.of_vc vcT vcM [.tmp 4] Tryz.func121 rfl rfl rfl rfl (fun hok => ?_)
  have hs : xs.length ≤ big := len_map hok.1.1
  have hsm : ms.length ≤ big := len_map hok.2.1.1
  repeat refine And.intro rfl ?_
  refine Or.inl (Exists.intro _ (And.intro (i_GateShapesOk _) ?_))
  repeat refine And.intro rfl ?_
  refine And.intro (fun h0 => ?_) (fun h0 => ?_)
  · simp only [Bool.not_eq_true', Bool.not_eq_false'] at h0
    repeat refine And.intro rfl ?_
    refine And.intro (fun h1 => ?_) (fun h1 => ?_)
    · rw [List.length_map] at h1
      refine bd ?_
      simp only [mendsOk, h1, Bool.not_true, Bool.false_and, Bool.and_false]
    · rw [List.length_map] at h1
      have hm12 : ms.length ≤ 12 := by have := of_decide_eq_false h1; omega
      have e : mendsOk xs ms = (ms.all (mendOkF xs) && xs.all fun s => rowOk s ms) := by simp only [mendsOk, h0, h1, Bool.not_false, Bool.true_and]; rfl
      rw [e]
      repeat refine And.intro rfl ?_
      refine ⟨fun m l h => ∃ (i : Nat) , m = ms.length - i ∧ i ≤ ms.length ∧ (ms.all (mendOkF xs) = (ms.drop i).all (mendOkF xs)) ∧ l = [(0, .d (lGateShape xs)), (1, .d (lGateMend ms)), (20, .d (lGateMend ms)), (21, .d (.int .i64 (ms.map GateMend.e).length)), (22, .d (.int .i64 i))] ∧ h = hp0,
        ⟨_, _, _, ⟨0, rfl, Nat.zero_le _, rfl, rfl, rfl⟩, rfl, rfl, ⟨rfl, rfl, rfl, rfl, rfl, trivial⟩, trivial, trivial⟩, ?_⟩
      rintro m l hh ⟨i, rfl, hi, hr, rfl, rfl⟩
      repeat refine And.intro rfl ?_
      refine And.intro (fun h2 => ?_) (fun h2 => ?_)
      · have hlt : i < ms.length := lt_map h2
        rw [all_step hlt] at hr
        repeat refine And.intro rfl ?_
        refine ix_at (e := GateMend.e) (xs := ms) (hlt) rfl ?_
        repeat refine And.intro rfl ?_
        repeat refine And.intro rfl ?_
        refine Or.inl (Exists.intro _ (And.intro (i_shapeOf _ _) ?_))
        repeat refine And.intro rfl ?_
        refine And.intro (by kernel_rfl) ?_
        repeat refine And.intro rfl ?_
        repeat refine And.intro rfl ?_
        refine And.intro (fun h3 => ?_) (fun h3 => ?_)
        · obtain ⟨j, hj, ej, _⟩ := idx_pos (p := fun s : GateShape => s.kind == ms[i].kind) (xs := xs) (decide_eq_true (by have := of_decide_eq_false h3; omega))
          repeat refine And.intro rfl ?_
          refine ix_atw (e := GateShape.e) (xs := xs) (hj) (ej) rfl ?_
          repeat refine And.intro rfl ?_
          repeat refine And.intro rfl ?_
          refine Or.inl (Exists.intro _ (And.intro (i_mendOk _ _) ?_))
          rw [mendOk_at hj ej] at hr
          repeat refine And.intro rfl ?_
          refine And.intro (fun h4 => ?_) (fun h4 => ?_)
          · change (!mendF xs[j].fields ms[i]) = true at h4
            simp only [Bool.not_eq_true', Bool.not_eq_false'] at h4
            refine bd ?_
            rw [hr, h4]; rfl
          · change (!mendF xs[j].fields ms[i]) = false at h4
            simp only [Bool.not_eq_true', Bool.not_eq_false'] at h4
            repeat refine And.intro rfl ?_
            exact ⟨_, _, _, ⟨i + 1, rfl, hlt, by rw [hr, h4]; rfl, rfl, rfl⟩, by omega, rfl, rfl, ⟨rfl, rfl, rfl, rfl, nd (wrap_succ hlt hsm), trivial⟩, trivial, trivial⟩
        · repeat refine And.intro rfl ?_
          refine And.intro (fun _ => ?_) (fun h => absurd h (by simp))
          refine bd ?_
          rw [hr, mendOk_none h3]; rfl
      · rw [all_end (ge_map h2)] at hr
        rw [hr, Bool.true_and]
        repeat refine And.intro rfl ?_
        refine ⟨fun m l h => ∃ (i : Nat) , m = xs.length - i ∧ i ≤ xs.length ∧ ((xs.all fun s => rowOk s ms) = ((xs.drop i).all fun s => rowOk s ms)) ∧ l = [(0, .d (lGateShape xs)), (1, .d (lGateMend ms)), (43, .d (lGateShape xs)), (44, .d (.int .i64 (xs.map GateShape.e).length)), (45, .d (.int .i64 i))] ∧ h = hp0,
          ⟨_, _, _, ⟨0, rfl, Nat.zero_le _, rfl, rfl, rfl⟩, rfl, rfl, ⟨rfl, rfl, rfl, rfl, rfl, trivial⟩, trivial, trivial⟩, ?_⟩
        rintro m l hh ⟨i, rfl, hi, hr, rfl, rfl⟩
        repeat refine And.intro rfl ?_
        refine And.intro (fun h5 => ?_) (fun h5 => ?_)
        · have hlt : i < xs.length := lt_map h5
          rw [all_step hlt] at hr
          repeat refine And.intro rfl ?_
          refine ix_at (e := GateShape.e) (xs := xs) (hlt) rfl ?_
          repeat refine And.intro rfl ?_
          repeat refine And.intro rfl ?_
          refine Or.inl (Exists.intro _ (And.intro (i_rowOf xs[i] ms hm12 (fun n _ => reads_in h0 (by assumption) (List.getElem_mem hlt) n)) ?_))
          rw [rowP_rowOk h0 (by assumption) (List.getElem_mem hlt)]
          repeat refine And.intro rfl ?_
          refine And.intro (fun h6 => ?_) (fun h6 => ?_)
          · simp only [Bool.not_eq_true', Bool.not_eq_false'] at h6
            refine bd ?_
            rw [hr, h6]; rfl
          · simp only [Bool.not_eq_true', Bool.not_eq_false'] at h6
            repeat refine And.intro rfl ?_
            exact ⟨_, _, _, ⟨i + 1, rfl, hlt, by rw [hr, h6]; rfl, rfl, rfl⟩, by omega, rfl, rfl, ⟨rfl, rfl, rfl, rfl, nd (wrap_succ hlt hs), trivial⟩, trivial, trivial⟩
        · refine bd ?_
          rw [hr, all_end (ge_map h5)]
  · simp only [Bool.not_eq_true', Bool.not_eq_false'] at h0
    refine bd ?_
    simp only [mendsOk, h0, Bool.false_and]
end Go.Vc
end

section
namespace Go.Vc
def valAt (fs : List GateField) (vals : List Bs) (n : Bs) : Bs := match vals[(idx (·.name == n) fs).toNat]? with | some v => v | none => []
def condM (e : Bs → Bs) (k n : Bs) (m : GateMend) : Bool := (m.kind == k && m.field == n) && ((m.when_ == [] || e m.when_ == m.is_) && (m.from_ == [] || !(e m.from_ == [])))
def giveM (e : Bs → Bs) (m : GateMend) : Bs := bif m.from_ == [] then m.put else e m.from_
def decE (e : Bs → Bs) (k n d : Bs) : List GateMend → Bs
  | [] => d
  | m :: ms => bif condM e k n m then giveM e m else decE e k n d ms
def decV (fs : List GateField) (ms : List GateMend) (k : Bs) (vals : List Bs) (n : Bs) : Bs := decE (valAt fs vals) k n (valAt fs vals n) ms
def mendStep (fs : List GateField) (ms : List GateMend) (k : Bs) (vals : List Bs) (n : Bs) : List Bs := vals.set (idx (·.name == n) fs).toNat (decV fs ms k vals n)
def mendV (fs : List GateField) (ms : List GateMend) (k : Bs) (row : List Bs) (vals : List Bs) : List Bs := row.foldl (mendStep fs ms k) vals
theorem decE_congr {e1 e2 : Bs → Bs} {k n d : Bs} : ∀ {ms : List GateMend}, (∀ y ∈ readsF k ms n, e1 y = e2 y) → decE e1 k n d ms = decE e2 k n d ms
  | [], _ => rfl
  | m :: ms, h => by
    have ih := decE_congr (e1 := e1) (e2 := e2) (k := k) (n := n) (d := d) (ms := ms) (fun y hy => h y (by simp only [readsF, List.map_cons, List.flatten_cons, List.mem_append]; exact .inr hy))
    simp only [decE, ih]
    cases hkf : (m.kind == k && m.field == n) with
    | false => simp only [condM, hkf, Bool.false_and, cond_false]
    | true =>
      have hr : ∀ y ∈ opt1 m.when_ ++ opt1 m.from_, e1 y = e2 y := fun y hy => h y (by simp only [readsF, List.map_cons, List.flatten_cons, List.mem_append, rd1, hkf, cond_true]; exact .inl (List.mem_append.1 hy))
      have hw : (m.when_ == []) = true ∨ e1 m.when_ = e2 m.when_ := by
        cases hq : m.when_ == [] with
        | true => exact .inl rfl
        | false => exact .inr (hr _ (List.mem_append.2 (.inl (by simp [opt1, hq]))))
      have hf : (m.from_ == []) = true ∨ e1 m.from_ = e2 m.from_ := by
        cases hq : m.from_ == [] with
        | true => exact .inl rfl
        | false => exact .inr (hr _ (List.mem_append.2 (.inr (by simp [opt1, hq]))))
      have hc : condM e1 k n m = condM e2 k n m := by
        simp only [condM]
        rcases hw with hw | hw <;> rcases hf with hf | hf <;> simp only [hw, hf, Bool.true_or]
      have hg : giveM e1 m = giveM e2 m := by
        simp only [giveM]
        rcases hf with hf | hf <;> simp only [hf, cond_true]
      rw [hc, hg]
/-! ### places -/
theorem place_lt {fs : List GateField} {n : Bs} (h : n ∈ fs.map (·.name)) : ∃ j : Nat, ∃ h : j < fs.length, idx (·.name == n) fs = (j : Int) ∧ fs[j].name = n := by
  rcases idxBy_spec (p := fun f : GateField => f.name == n) fs 0 with ⟨h1, h2⟩ | ⟨j, hj, h1, h2, _⟩
  · obtain ⟨f, hf, rfl⟩ := List.mem_map.1 h
    have := List.any_eq_false.1 h2 f hf
    simp at this
  · exact ⟨j, hj, by unfold idx; rw [h1, Nat.zero_add], beq_iff_eq.1 h2⟩
theorem nodup_at {fs : List GateField} (hn : (fs.map (·.name)).Nodup) {i j : Nat} (hi : i < fs.length) (hj : j < fs.length) (h : fs[i].name = fs[j].name) : i = j := by
  have e : (fs.map GateField.name)[i]'(by simpa using hi) = (fs.map GateField.name)[j]'(by simpa using hj) := by simpa using h
  exact (List.getElem_inj hn).1 e
section
variable {fs : List GateField} {ms : List GateMend} {k : Bs}
theorem valAt_eq {vals : List Bs} {n : Bs} {j : Nat} (e : idx (·.name == n) fs = (j : Int)) (h : j < vals.length) : valAt fs vals n = vals[j] := by
  unfold valAt
  rw [e, Int.toNat_natCast, List.getElem?_eq_getElem h]
theorem valAt_set {vals : List Bs} (hl : vals.length = fs.length) {n y v : Bs} (hn : n ∈ fs.map (·.name)) (hy : y ∈ fs.map (·.name)) : valAt fs (vals.set (idx (·.name == n) fs).toNat v) y = if y = n then v else valAt fs vals y := by
  obtain ⟨i, hi, e1, e2⟩ := place_lt hn
  obtain ⟨j, hj, e3, e4⟩ := place_lt hy
  rw [e1, Int.toNat_natCast, valAt_eq e3 (by rw [List.length_set]; omega), List.getElem_set]
  by_cases h : i = j
  · subst h
    rw [if_pos rfl, if_pos (by rw [← e4, ← e2])]
  · rw [if_neg h, valAt_eq e3 (by omega), if_neg]
    intro e
    subst e
    rw [e1] at e3
    exact h (by omega)
theorem mendStep_len (vals : List Bs) (n : Bs) : (mendStep fs ms k vals n).length = vals.length := List.length_set ..
theorem mendV_len : ∀ (row : List Bs) (vals : List Bs), (mendV fs ms k row vals).length = vals.length
  | [], _ => rfl
  | n :: row, vals => by
    show (mendV fs ms k row (mendStep fs ms k vals n)).length = _
    rw [mendV_len row, mendStep_len]
theorem mendV_other : ∀ {row : List Bs} {vals : List Bs}, vals.length = fs.length → (∀ x ∈ row, x ∈ fs.map (·.name)) → ∀ {y : Bs}, y ∈ fs.map (·.name) → y ∉ row → valAt fs (mendV fs ms k row vals) y = valAt fs vals y
  | [], _, _, _, _, _, _ => rfl
  | n :: row, vals, hl, hr, y, hy, hne => by
    show valAt fs (mendV fs ms k row (mendStep fs ms k vals n)) y = _
    rw [mendV_other (by rw [mendStep_len]; exact hl) (fun x hx => hr x (List.mem_cons_of_mem _ hx)) hy (fun h => hne (List.mem_cons_of_mem _ h))]
    unfold mendStep
    rw [valAt_set hl (hr n List.mem_cons_self) hy, if_neg (fun e : y = n => hne (e ▸ List.mem_cons_self))]
theorem mendV_app (a b : List Bs) (vals : List Bs) : mendV fs ms k (a ++ b) vals = mendV fs ms k b (mendV fs ms k a vals) := by
  unfold mendV; exact List.foldl_append
theorem mendV_at {row : List Bs} (g : Good (readsF k ms) (fs.map (·.name)) row) {vals : List Bs} (hl : vals.length = fs.length) {n : Bs} (hn : n ∈ row) :
    valAt fs (mendV fs ms k row vals) n = decE (valAt fs (mendV fs ms k row vals)) k n (valAt fs vals n) ms := by
  obtain ⟨pre, post, rfl⟩ := List.append_of_mem hn
  have hnd := g.nd
  rw [List.nodup_append] at hnd
  obtain ⟨_, hpost, hdis⟩ := hnd
  rw [List.nodup_cons] at hpost
  have hpre : n ∉ pre := fun h => hdis n h n List.mem_cons_self rfl
  have hsub : ∀ x ∈ pre ++ n :: post, x ∈ fs.map (·.name) := g.sub
  have hl1 : (mendV fs ms k pre vals).length = fs.length := by rw [mendV_len, hl]
  have hn' := hsub n (by simp)
  have e0 : mendV fs ms k (pre ++ n :: post) vals = mendV fs ms k post (mendStep fs ms k (mendV fs ms k pre vals) n) := by rw [mendV_app]; rfl
  have hl2 : (mendStep fs ms k (mendV fs ms k pre vals) n).length = fs.length := by rw [mendStep_len, hl1]
  have hps : ∀ x ∈ post, x ∈ fs.map (·.name) := fun x hx => hsub x (by simp [hx])
  have e1 : valAt fs (mendV fs ms k (pre ++ n :: post) vals) n = decV fs ms k (mendV fs ms k pre vals) n := by
    rw [e0, mendV_other hl2 hps hn' hpost.1]
    unfold mendStep
    rw [valAt_set hl1 hn' hn', if_pos rfl]
  rw [e1]
  unfold decV
  have e2 : valAt fs (mendV fs ms k pre vals) n = valAt fs vals n := mendV_other hl (fun x hx => hsub x (by simp [hx])) hn' hpre
  rw [e2]
  refine decE_congr fun y hy => ?_
  have hb := g.beh n (by simp) y hy
  have hni : (pre ++ n :: post).idxOf n = pre.length := by rw [List.idxOf_append, if_neg hpre]; simp
  have hyp : y ∈ pre := by
    rw [hni] at hb
    rw [List.idxOf_append] at hb
    split at hb
    · assumption
    · omega
  have hy' := hsub y (by simp [hyp])
  rw [e0, mendV_other hl2 hps hy' (fun h => hdis y hyp y (List.mem_cons_of_mem _ h) rfl)]
  unfold mendStep
  rw [valAt_set hl1 hn' hy', if_neg (fun e : y = n => hpre (e ▸ hyp))]
/-- THE ORDER DOES NOT COUNT -/
theorem mendV_order (hnd : (fs.map (·.name)).Nodup) {r1 r2 : List Bs} (g1 : Good (readsF k ms) (fs.map (·.name)) r1) (g2 : Good (readsF k ms) (fs.map (·.name)) r2) (h1 : ∀ n ∈ fs.map (·.name), n ∈ r1) (h2 : ∀ n ∈ fs.map (·.name), n ∈ r2)
    {vals : List Bs} (hl : vals.length = fs.length) : mendV fs ms k r1 vals = mendV fs ms k r2 vals := by
  have key : ∀ (i : Nat) (n : Bs), n ∈ fs.map (·.name) → r1.idxOf n = i → valAt fs (mendV fs ms k r1 vals) n = valAt fs (mendV fs ms k r2 vals) n := by
    intro i
    induction i using Nat.strongRecOn with
    | _ i ih =>
      intro n hn hi
      rw [mendV_at g1 hl (h1 n hn), mendV_at g2 hl (h2 n hn)]
      refine decE_congr fun y hy => ?_
      have hb := g1.beh n (h1 n hn) y hy
      have hyr : y ∈ r1 := List.idxOf_lt_length_iff.1 (by have := List.idxOf_lt_length_of_mem (h1 n hn); omega)
      exact ih _ (hi ▸ hb) y (g1.sub y hyr) rfl
  have l1 : (mendV fs ms k r1 vals).length = fs.length := by rw [mendV_len, hl]
  have l2 : (mendV fs ms k r2 vals).length = fs.length := by rw [mendV_len, hl]
  apply List.ext_getElem (by rw [l1, l2])
  intro j hj1 hj2
  have hj : j < fs.length := by omega
  have hm : fs[j].name ∈ fs.map (·.name) := List.mem_map.2 ⟨_, List.getElem_mem hj, rfl⟩
  obtain ⟨j', hj', e1, e2⟩ := place_lt hm
  have := nodup_at hnd hj' hj e2
  subst this
  have hk := key _ _ hm rfl
  rw [valAt_eq e1 hj1, valAt_eq e1 hj2] at hk
  exact hk
end
/-! ### the two rows -/
theorem rowF_good (s : GateShape) (ms : List GateMend) : Good (readsF s.kind ms) (namesF s) (rowF s ms) := greedy_good _ _ _
theorem full_mem : ∀ {ns row : List Bs}, ns.Nodup → row.Nodup → (∀ x ∈ row, x ∈ ns) → row.length = ns.length → ∀ n ∈ ns, n ∈ row := by
  intro ns row hn hr hs hl n hm
  refine Classical.byContradiction fun h => ?_
  have : (n :: row).length ≤ ns.length := len_of_sub (List.nodup_cons.2 ⟨h, hr⟩) (fun x hx => by
    rcases List.mem_cons.1 hx with e | e
    · exact e ▸ hm
    · exact hs x e)
  simp only [List.length_cons] at this
  omega
theorem rowP_good {rd : Bs → List Bs} {ns : List Bs} (hin : ∀ n ∈ ns, ∀ y ∈ rd n, y ∈ ns) (h : (rowP rd ns).2 = true) : Good rd ns (rowP rd ns).1 ∧ ∀ n ∈ ns, n ∈ (rowP rd ns).1 := by
  have g := walkL_good (rd := rd) (ns := ns) (w := walk rd (ns.length + 1)) (n := ns.length) ns wk0
    (fun y hy s hs hl => walk_good hin _ y s hy hs (by omega)) (wk0_ok rd ns) (white_len _ _)
  rw [rowP_ok] at h
  obtain ⟨g1, g2, g3⟩ := g.1 h
  cases e : walkL (walk rd (ns.length + 1)) ns wk0 with
  | mk b u =>
    rw [e] at h g1 g2 g3
    simp only at h
    subst h
    rw [rowP_yes e]
    exact ⟨⟨g1.nd, g1.sub, g1.beh⟩, fun n hn => (g1.two n).1 (g3 n hn)⟩
end Go.Vc
end

section
namespace Go.Vc
open Go.Proofs
set_option maxRecDepth 100000
set_option pp.maxSteps 400
set_option pp.deepTerms false
set_option linter.unusedSimpArgs false
set_option linter.unusedVariables false
theorem placeM {fs : List GateField} {vals : List Bs} (hl : vals.length = fs.length) (h0 : 0 < fs.length) (y : Bs) (c : Prop) (hc : c → y ∈ fs.map (·.name)) : ∃ j, ∃ hj : j < vals.length, c → (idx (·.name == y) fs = (j : Int) ∧ valAt fs vals y = vals[j]) := by
  by_cases h : c
  · obtain ⟨j, hj, e, _⟩ := place_lt (hc h)
    exact ⟨j, by omega, fun _ => ⟨e, valAt_eq e (by omega)⟩⟩
  · exact ⟨0, by omega, fun g => absurd g h⟩
def MendIn (fs : List GateField) (k : Bs) (m : GateMend) : Prop := (m.kind == k) = true → ((m.when_ == []) = false → m.when_ ∈ fs.map (·.name)) ∧ ((m.from_ == []) = false → m.from_ ∈ fs.map (·.name))
theorem decE_step {e : Bs → Bs} {k n d : Bs} {ms : List GateMend} {i : Nat} (h : i < ms.length) : decE e k n d (ms.drop i) = bif condM e k n ms[i] then giveM e ms[i] else decE e k n d (ms.drop (i + 1)) := by
  rw [List.drop_eq_getElem_cons h]; rfl
theorem decE_end {e : Bs → Bs} {k n d : Bs} {ms : List GateMend} {i : Nat} (h : ms.length ≤ i) : decE e k n d (ms.drop i) = d := by
  rw [List.drop_of_length_le h]; rfl
set_option maxHeartbeats 4000000 in
theorem s_l3Decided (fs : List GateField) (ms : List GateMend) (o : GateObject) (n : Bs) (hl : o.values.length = fs.length) (hn : n ∈ fs.map (·.name)) (hm : ∀ m ∈ ms, MendIn fs o.kind m) :
    Spec P 194 [.d (lGateField fs), .d (lGateMend ms), st o.e, .d (.str n)] (.d (.str (decV fs ms o.kind o.values n))) := by
  refine Spec.of_vc vcT vcM [.tmp 8] Tryz.func194 rfl rfl rfl rfl (fun hok => ?_)
  have hs : ms.length ≤ big := len_map hok.2.1.1
  obtain ⟨jn, hjn, en, _⟩ := place_lt hn
  repeat refine And.intro rfl ?_
  refine ⟨fun m l h => ∃ (i : Nat) , m = ms.length - i ∧ i ≤ ms.length ∧ (decV fs ms o.kind o.values n = decE (valAt fs o.values) o.kind n (valAt fs o.values n) (ms.drop i)) ∧ l = [(0, .d (lGateField fs)), (1, .d (lGateMend ms)), (3, .d (.str n)), (6, .ptr 0 0), (9, .d (.int .i64 i))] ∧ h = ⟨[(0, .cells 145 (o.e.map .d))], 1, 0⟩,
    ⟨_, _, _, ⟨0, rfl, Nat.zero_le _, rfl, rfl, rfl⟩, rfl, rfl, ⟨rfl, rfl, rfl, rfl, rfl, trivial⟩, ⟨rfl, trivial⟩, ⟨rfl, trivial⟩⟩, ?_⟩
  rintro m l hh ⟨i, rfl, hi, hr, rfl, rfl⟩
  repeat refine And.intro rfl ?_
  refine And.intro (fun h1 => ?_) (fun h1 => ?_)
  · have hlt : i < ms.length := lt_map h1
    rw [decE_step hlt] at hr
    have hmi := hm ms[i] (List.getElem_mem hlt)
    obtain ⟨jw, hjw, ew⟩ := placeM hl (by omega) ms[i].when_ ((ms[i].kind == o.kind) = true ∧ (ms[i].when_ == []) = false) (fun h => (hmi h.1).1 h.2)
    obtain ⟨jf, hjf, ef⟩ := placeM hl (by omega) ms[i].from_ ((ms[i].kind == o.kind) = true ∧ (ms[i].from_ == []) = false) (fun h => (hmi h.1).2 h.2)
    generalize hd : decE (valAt fs o.values) o.kind n (valAt fs o.values n) (ms.drop (i + 1)) = rest at hr
    repeat refine And.intro rfl ?_
    refine ix_at (e := GateMend.e) (xs := ms) (hlt) rfl ?_
    repeat refine And.intro rfl ?_
    repeat refine And.intro rfl ?_
    refine And.intro (by kernel_rfl) ?_
    repeat refine And.intro rfl ?_
    repeat' first
      | refine And.intro rfl ?_
      | refine And.intro (fun h => ?_) (fun h => ?_)
      | refine Or.inl (Exists.intro _ (And.intro (s_l3Field _ _) ?_))
      | refine And.intro (by kernel_rfl) ?_
      | refine ix_atw (e := eB) (xs := o.values) hjw (ew (by simp_all)).1 rfl ?_
      | refine ix_atw (e := eB) (xs := o.values) hjf (ef (by simp_all)).1 rfl ?_
    all_goals (simp only [cond_false, cond_true, Bool.not_eq_true', Bool.not_eq_false', reduceCtorEq] at *)
    all_goals (try have ew' := (ew ⟨by assumption, by assumption⟩).2)
    all_goals (try have ef' := (ef ⟨by assumption, by assumption⟩).2)
    all_goals first
      | (refine sd ?_; rw [hr]; simp only [condM, giveM, *, Bool.true_and, Bool.and_true, Bool.false_and, Bool.and_false, Bool.true_or, Bool.or_true, Bool.false_or, Bool.or_false, Bool.not_true, Bool.not_false, cond_true, cond_false]; done)
      | (have hq : decV fs ms o.kind o.values n = rest := (by rw [hr]; simp only [condM, giveM, *, Bool.true_and, Bool.and_true, Bool.false_and, Bool.and_false, Bool.true_or, Bool.or_true, Bool.false_or, Bool.or_false, Bool.not_true, Bool.not_false, cond_true, cond_false]); exact ⟨_, _, _, ⟨i + 1, rfl, hlt, by rw [hq, hd], rfl, rfl⟩, by omega, rfl, rfl, ⟨rfl, rfl, rfl, rfl, nd (wrap_succ hlt hs), trivial⟩, ⟨rfl, trivial⟩, ⟨rfl, trivial⟩⟩)
  · repeat refine And.intro rfl ?_
    refine And.intro (by kernel_rfl) ?_
    repeat refine And.intro rfl ?_
    repeat refine And.intro rfl ?_
    refine Or.inl (Exists.intro _ (And.intro (s_l3Field _ _) ?_))
    repeat refine And.intro rfl ?_
    refine ix_atw (e := eB) (xs := o.values) ((show jn < o.values.length by omega)) (en) rfl ?_
    repeat refine And.intro rfl ?_
    refine sd ?_
    rw [hr, decE_end (ge_map h1), valAt_eq en (by omega)]
theorem mendIn_of {xs : List GateShape} {ms : List GateMend} (h : shapesOk xs = true) (hm : ms.all (mendOkF xs) = true) {s : GateShape} (hs : s ∈ xs) : ∀ m ∈ ms, MendIn s.fields s.kind m := by
  intro m hmm hk
  have hf := mend_at h hs (List.all_eq_true.1 hm m hmm) (beq_iff_eq.1 hk)
  unfold mendF at hf
  simp only [Bool.and_eq_true, Bool.or_eq_true] at hf
  obtain ⟨⟨_, h2, h3⟩, _⟩ := hf
  refine ⟨fun g => ?_, fun g => ?_⟩
  · rcases h2 with h2 | h2
    · rw [g] at h2; cases h2
    · exact plain_in h2
  · rcases h3 with h3 | h3
    · rw [g] at h3; cases h3
    · exact plain_in h3
def mendedF (xs : List GateShape) (ms : List GateMend) (o : GateObject) : GateObject := match xs[(idx (·.kind == o.kind) xs).toNat]? with
  | some s => bif (fieldsF xs o.kind o.values.length).2 then { o with values := mendV s.fields ms o.kind (rowF s ms) o.values } else o
  | none => o
theorem mendedF_no {xs : List GateShape} {ms : List GateMend} {o : GateObject} (h : (fieldsF xs o.kind o.values.length).2 = false) : mendedF xs ms o = o := by
  unfold mendedF
  split
  · rw [h]; rfl
  · rfl
theorem mendedF_at {xs : List GateShape} {ms : List GateMend} {o : GateObject} {j : Nat} (hj : j < xs.length) (e : idx (·.kind == o.kind) xs = (j : Int)) (h : (fieldsF xs o.kind o.values.length).2 = true) : mendedF xs ms o = { o with values := mendV xs[j].fields ms o.kind (rowF xs[j] ms) o.values } := by
  unfold mendedF
  rw [e, Int.toNat_natCast, List.getElem?_eq_getElem hj, h]
  rfl
theorem mendV_step {fs : List GateField} {ms : List GateMend} {k : Bs} {row : List Bs} {vals : List Bs} {i : Nat} (h : i < row.length) : mendV fs ms k (row.take (i + 1)) vals = mendStep fs ms k (mendV fs ms k (row.take i) vals) row[i] := by
  rw [List.take_succ_eq_append_getElem h, mendV_app]; rfl
set_option maxHeartbeats 1000000 in
theorem s_l3Mended (xs : List GateShape) (ms : List GateMend) (o : GateObject) (hx : shapesOk xs = true) (hm : ms.all (mendOkF xs) = true) :
    Spec P 154 [.d (lGateShape xs), .d (lGateMend ms), st o.e] (st (mendedF xs ms o).e) := by
  refine Spec.of_vc vcT vcM [.cell 6 145] Tryz.func154 rfl rfl rfl rfl (fun hok => ?_)
  have hb := ok_obj (o := o) ⟨hok.2.2.1, trivial⟩
  repeat refine And.intro rfl ?_
  refine Or.inr (Or.inr (Or.inr (Or.inr (Or.inr (Exists.intro _ (Exists.intro _ (And.intro rfl (And.intro (s_l2CopyO o hb.1 hb.2) ?_))))))))
  repeat refine And.intro rfl ?_
  refine Or.inl (Exists.intro _ (And.intro (s_l2Fields _ _) ?_))
  repeat refine And.intro rfl ?_
  refine And.intro (fun h0 => ?_) (fun h0 => ?_)
  · simp only [Bool.not_eq_true'] at h0
    rw [mendedF_no h0]
    repeat refine And.intro rfl ?_
    exact rfl
  · simp only [Bool.not_eq_false'] at h0
    rcases fieldsF_spec (xs := xs) (k := o.kind) (n := o.values.length) with ⟨h1, _⟩ | ⟨j, hj, ej, ef, hl, hk⟩
    · rw [h1] at h0; cases h0
    rw [mendedF_at hj ej h0]
    repeat refine And.intro rfl ?_
    refine Or.inl (Exists.intro _ (And.intro (s_l1Shape _ _) ?_))
    repeat refine And.intro rfl ?_
    refine ix_atw (e := GateShape.e) (xs := xs) (hj) (ej) rfl ?_
    repeat refine And.intro rfl ?_
    repeat refine And.intro rfl ?_
    refine Or.inl (Exists.intro _ (And.intro (s_l3Row xs[j] ms) ?_))
    have g := rowF_good xs[j] ms
    have hmi := mendIn_of hx hm (List.getElem_mem hj)
    rw [hk] at hmi
    have hfs : (fieldsF xs o.kind o.values.length).1 = xs[j].fields := by rw [ef]
    rw [hfs]
    have hrl : (rowF xs[j] ms).length ≤ xs[j].fields.length := gr_len _ _ _
    have hsub : ∀ x ∈ rowF xs[j] ms, x ∈ xs[j].fields.map (·.name) := g.sub
    generalize hfe : xs[j].fields = fs at *
    generalize rowF xs[j] ms = row at *
    repeat refine And.intro rfl ?_
    refine ⟨fun m l h => ∃ (i : Nat) (W : List Bs), m = row.length - i ∧ i ≤ row.length ∧ (W = mendV fs ms o.kind (row.take i) o.values) ∧ l = [(1, .d (lGateMend ms)), (6, .ptr 1 0), (7, .ptr 6 0), (8, .d (lGateField fs)), (10, .d (lS row)), (11, .d (.int .i64 i))] ∧ h = ⟨[(6, .cells 145 [.d (.str o.kind), .d (.str o.name), .d (.str o.team), .own 4, .d (.bool o.ending), .own 5, .d (.int .i64 o.version)]), (4, .row 9 1 (W.map eB)), (5, .row 9 1 (o.holds.map eB)), (1, .cells 145 [.d (.str []), .d (.str []), .d (.str []), .nils, .d (.bool false), .nils, .d (.int .i64 0)])], 7, 0⟩,
      ⟨_, _, _, ⟨0, _, rfl, Nat.zero_le _, rfl, rfl, rfl⟩, rfl, rfl, ⟨rfl, rfl, rfl, rfl, rfl, rfl, trivial⟩, (by repeat' first|exact rfl|exact trivial|refine And.intro ?_ ?_), (by repeat' first|exact rfl|exact trivial|refine And.intro ?_ ?_)⟩, ?_⟩
    rintro m l hh ⟨i, W, rfl, hi, hr, rfl, rfl⟩
    have hs : row.length ≤ big := by omega
    have hW : W.length = fs.length := by rw [hr, mendV_len, hl]
    repeat refine And.intro rfl ?_
    refine And.intro (fun h1 => ?_) (fun h1 => ?_)
    · have hlt : i < row.length := lt_map h1
      have hin := hsub _ (List.getElem_mem hlt)
      obtain ⟨p, hp, ep, _⟩ := place_lt hin
      have hst : mendV fs ms o.kind (row.take (i + 1)) o.values = mendStep fs ms o.kind W row[i] := by rw [mendV_step hlt, ← hr]
      repeat refine And.intro rfl ?_
      refine And.intro (by kernel_rfl) (And.intro (by kernel_rfl) ?_)
      repeat refine And.intro rfl ?_
      repeat refine And.intro rfl ?_
      refine ix_at (e := eB) (xs := row) (hlt) rfl ?_
      repeat refine And.intro rfl ?_
      repeat refine And.intro rfl ?_
      refine Or.inl (Exists.intro _ (And.intro (s_l3Field _ _) ?_))
      repeat refine And.intro rfl ?_
      refine ix_at (e := eB) (xs := row) (hlt) rfl ?_
      repeat refine And.intro rfl ?_
      repeat refine And.intro rfl ?_
      refine Or.inl (Exists.intro _ (And.intro (s_l3Decided fs ms { o with values := W } row[i] hW hin hmi) ?_))
      repeat refine And.intro rfl ?_
      refine And.intro (by rw [ep]; exact Int.natCast_nonneg _) (And.intro (by rw [ep, List.length_map]; omega) ?_)
      repeat refine And.intro rfl ?_
      have hpt : (idx (·.name == row[i]) fs).toNat < W.length := by rw [ep]; omega
      refine ⟨eB W[(idx (·.name == row[i]) fs).toNat], by rw [List.getElem?_map, List.getElem?_eq_getElem hpt]; rfl, Nat.le_refl _, ?_⟩
      repeat refine And.intro rfl ?_
      refine ⟨_, _, _, ⟨i + 1, mendStep fs ms o.kind W row[i], rfl, hlt, by rw [hst], rfl, rfl⟩, by omega, rfl, rfl, ?_, ?_, ?_⟩
      all_goals (repeat' first | exact rfl | exact trivial | exact nd (wrap_succ hlt hs) | exact rowset hpt | refine And.intro ?_ ?_)
    · rw [List.take_of_length_le (ge_map h1)] at hr
      rw [← hr]
      repeat refine And.intro rfl ?_
      exact rfl
end Go.Vc
end
