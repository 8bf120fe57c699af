/- What a field's mends read; rows of fields: pure facts. -/
import Derived.Test.YtcakciamoopkcaaGreatGtL
import Derived.Test.YtcakciamoopkcaaGreatGtV
namespace Go.Vc
set_option linter.unusedSimpArgs false
set_option linter.unusedVariables false
theorem asc_inj {α : Type} {key : α → Bs} : ∀ {xs : List α} {p : Option Bs}, ascK key p xs = true → ∀ a ∈ xs, ∀ b ∈ xs, key a = key b → a = b
  | [], _, _, a, ha, _, _, _ => by cases ha
  | x :: xs, p, h, a, ha, b, hb, e => by
    simp only [ascK, Bool.and_eq_true] at h
    rcases List.mem_cons.1 ha with rfl | ha'
    · rcases List.mem_cons.1 hb with rfl | hb'
      · rfl
      · have := asc_head h.2 b hb'
        rw [← e, bl_irr] at this; cases this
    · rcases List.mem_cons.1 hb with rfl | hb'
      · have := asc_head h.2 a ha'
        rw [e, bl_irr] at this; cases this
      · exact asc_inj h.2 a ha' b hb' e
def opt1 (s : Bs) : List Bs := bif s == [] then [] else [s]
def rd1 (k n : Bs) (m : GateMend) : List Bs := bif m.kind == k && m.field == n then opt1 m.when_ ++ opt1 m.from_ else []
/-- what the mends of a field read -/
def readsF (k : Bs) (ms : List GateMend) (n : Bs) : List Bs := (ms.map (rd1 k n)).flatten
def rdy (k f : Bs) (row : List Bs) (m : GateMend) : Bool :=
  !((m.kind == k && m.field == f) && ((!(m.when_ == []) && !row.any (· == m.when_)) || (!(m.from_ == []) && !row.any (· == m.from_))))
def readyF (k f : Bs) (row : List Bs) (ms : List GateMend) : Bool := ms.all (rdy k f row)
theorem any_contains {row : List Bs} {s : Bs} : row.any (· == s) = row.contains s := by
  rw [Bool.eq_iff_iff, List.any_eq_true, List.contains_iff_mem]
  constructor
  · rintro ⟨x, hx, e⟩; rw [beq_iff_eq] at e; exact e ▸ hx
  · intro h; exact ⟨s, h, BEq.rfl⟩
theorem opt1_all {s : Bs} {p : Bs → Bool} : (opt1 s).all p = !(!(s == []) && !p s) := by
  unfold opt1
  cases s == [] <;> simp
theorem rdy_all {k f : Bs} {row : List Bs} {m : GateMend} : rdy k f row m = (rd1 k f m).all row.contains := by
  unfold rdy rd1
  cases (m.kind == k && m.field == f) with
  | false => rfl
  | true =>
    simp only [cond_true, List.all_append, opt1_all, any_contains, Bool.true_and, Bool.not_or]
theorem all_flatten {p : Bs → Bool} : ∀ {l : List (List Bs)}, l.flatten.all p = l.all (·.all p)
  | [] => rfl
  | x :: l => by simp only [List.flatten_cons, List.all_append, List.all_cons, all_flatten]
theorem readyF_all {k f : Bs} {row : List Bs} {ms : List GateMend} : readyF k f row ms = (readsF k ms f).all row.contains := by
  unfold readyF readsF
  rw [all_flatten, List.all_map]
  congr 1
  funext m
  exact rdy_all
def namesF (s : GateShape) : List Bs := s.fields.map (·.name)
/-- may this field come next? -/
def candF (s : GateShape) (ms : List GateMend) (row : List Bs) (f : Bs) : Bool := !row.any (· == f) && readyF s.kind f row ms
def gr (s : GateShape) (ms : List GateMend) (n : Nat) : List Bs := greedy (readsF s.kind ms) (namesF s) n
def rowF (s : GateShape) (ms : List GateMend) : List Bs := gr s ms s.fields.length
theorem cand_eq {s : GateShape} {ms : List GateMend} {row : List Bs} : candF s ms row = fun f => !row.contains f && (readsF s.kind ms f).all row.contains := by
  funext f
  unfold candF
  rw [any_contains, readyF_all]
theorem gr_some {s : GateShape} {ms : List GateMend} {n : Nat} {f : Bs} (h : (namesF s).find? (candF s ms (gr s ms n)) = some f) : gr s ms (n + 1) = gr s ms n ++ [f] := by
  rw [cand_eq] at h
  show stepG _ _ _ = _
  unfold stepG
  unfold gr at h ⊢
  rw [h]
theorem gr_none {s : GateShape} {ms : List GateMend} {n : Nat} (h : (namesF s).find? (candF s ms (gr s ms n)) = none) : gr s ms (n + 1) = gr s ms n := by
  rw [cand_eq] at h
  show stepG _ _ _ = _
  unfold stepG
  unfold gr at h ⊢
  rw [h]
theorem gr_len (s : GateShape) (ms : List GateMend) (n : Nat) : (gr s ms n).length ≤ s.fields.length := by
  have g := greedy_good (readsF s.kind ms) (namesF s) n
  have := len_of_sub g.nd g.sub
  rw [namesF, List.length_map] at this
  exact this
theorem gr_le (s : GateShape) (ms : List GateMend) : ∀ n, (gr s ms n).length ≤ n
  | 0 => Nat.le_refl _
  | n + 1 => by
    have ih := gr_le s ms n
    cases h : (namesF s).find? (candF s ms (gr s ms n)) with
    | none => rw [gr_none h]; omega
    | some f => rw [gr_some h, List.length_append, List.length_singleton]; omega
theorem find_step {α : Type} {p : α → Bool} {xs : List α} {i : Nat} (h : i < xs.length) : (xs.drop i).find? p = bif p xs[i] then some xs[i] else (xs.drop (i + 1)).find? p := by
  rw [List.drop_eq_getElem_cons h, List.find?_cons]
  cases p xs[i] <;> rfl
/-- a row of what may come next, place by place -/
def nextF (s : GateShape) (ms : List GateMend) (row : List Bs) (l : List GateField) : Option Bs := (l.map (·.name)).find? (candF s ms row)
theorem nextF_step {s : GateShape} {ms : List GateMend} {row : List Bs} {xs : List GateField} {i : Nat} (h : i < xs.length) : nextF s ms row (xs.drop i) = bif candF s ms row xs[i].name then some xs[i].name else nextF s ms row (xs.drop (i + 1)) := by
  unfold nextF
  rw [List.drop_eq_getElem_cons h, List.map_cons, List.find?_cons]
  cases candF s ms row xs[i].name <;> rfl
theorem nextF_end {s : GateShape} {ms : List GateMend} {row : List Bs} {xs : List GateField} {i : Nat} (h : xs.length ≤ i) : nextF s ms row (xs.drop i) = none := by
  rw [List.drop_of_length_le h]; rfl
def mendsOk (shapes : List GateShape) (ms : List GateMend) : Bool :=
  shapesOk shapes && (!decide ((ms.length : Int) > 12) && (ms.all (mendOkF shapes) && shapes.all fun s => ((rowF s ms).length : Int) == (s.fields.length : Int)))
/-! ### names of fields are different; what is read is a field -/
theorem flds_nodup {kinds : List Bs} : ∀ {fs : List GateField} {pre : List Bs}, flds kinds pre fs = true → (fs.map (·.name)).Nodup ∧ ∀ x ∈ pre, x ∉ fs.map (·.name)
  | [], _, _ => ⟨List.nodup_nil, fun _ _ h => by cases h⟩
  | f :: fs, pre, h => by
    simp only [flds, Bool.and_eq_true, Bool.not_eq_true'] at h
    obtain ⟨h1, _, h3⟩ := h
    obtain ⟨g1, g2⟩ := flds_nodup h3
    rw [any_contains] at h1
    refine ⟨?_, fun x hx c => ?_⟩
    · rw [List.map_cons, List.nodup_cons]
      exact ⟨g2 f.name (List.mem_append.2 (.inr List.mem_cons_self)), g1⟩
    · rw [List.map_cons] at c
      rcases List.mem_cons.1 c with c | c
      · have : pre.contains f.name = true := List.contains_iff_mem.2 (c ▸ hx)
        rw [h1] at this; cases this
      · exact g2 x (List.mem_append.2 (.inl hx)) c
theorem shapes_nodup {xs : List GateShape} (h : shapesOk xs = true) {s : GateShape} (hs : s ∈ xs) : (namesF s).Nodup := by
  unfold shapesOk at h
  simp only [Bool.and_eq_true] at h
  have := List.all_eq_true.1 h.2.2 s hs
  unfold shapeOkF at this
  simp only [Bool.and_eq_true] at this
  exact (flds_nodup this.2).1
theorem shapes_inj {xs : List GateShape} (h : shapesOk xs = true) {a b : GateShape} (ha : a ∈ xs) (hb : b ∈ xs) (e : a.kind = b.kind) : a = b := by
  unfold shapesOk at h
  simp only [Bool.and_eq_true] at h
  exact asc_inj h.2.1 a ha b hb e
theorem plain_in {fs : List GateField} {n : Bs} (h : plainF fs n = true) : n ∈ fs.map (·.name) := by
  unfold plainF at h
  rw [Bool.and_eq_true, idx_any] at h
  obtain ⟨f, hf, e⟩ := List.any_eq_true.1 h.1
  rw [beq_iff_eq] at e
  exact List.mem_map.2 ⟨f, hf, e⟩
theorem opt1_mem {s y : Bs} (h : y ∈ opt1 s) : y = s ∧ (s == []) = false := by
  unfold opt1 at h
  cases e : s == [] with
  | true => rw [e] at h; cases h
  | false => rw [e] at h; exact ⟨List.mem_singleton.1 h, rfl⟩
theorem mend_at {xs : List GateShape} (h : shapesOk xs = true) {s : GateShape} (hs : s ∈ xs) {m : GateMend} (hm : mendOkF xs m = true) (e : m.kind = s.kind) : mendF s.fields m = true := by
  unfold mendOkF at hm
  split at hm
  · rename_i s' hq
    rw [Bool.and_eq_true] at hm
    obtain ⟨j, hj, h1, h2, _⟩ := idx_pos hm.1
    rw [h1, Int.toNat_natCast, List.getElem?_eq_getElem hj] at hq
    have e1 : s' = xs[j] := (Option.some.inj hq).symm
    have e2 : xs[j].kind = m.kind := by simpa using h2
    have : s' = s := shapes_inj h (e1 ▸ List.getElem_mem hj) hs (by rw [e1, e2, e])
    exact this ▸ hm.2
  · cases hm
theorem reads_in {xs : List GateShape} {ms : List GateMend} (h : shapesOk xs = true) (hm : ms.all (mendOkF xs) = true) {s : GateShape} (hs : s ∈ xs) : ∀ n, ∀ y ∈ readsF s.kind ms n, y ∈ namesF s := by
  intro n y hy
  unfold readsF at hy
  obtain ⟨l, hl, hy⟩ := List.mem_flatten.1 hy
  obtain ⟨m, hm1, rfl⟩ := List.mem_map.1 hl
  unfold rd1 at hy
  cases e : (m.kind == s.kind && m.field == n) with
  | false => rw [e] at hy; cases hy
  | true =>
    rw [e] at hy
    rw [Bool.and_eq_true, beq_iff_eq] at e
    have hf := mend_at h hs (List.all_eq_true.1 hm m hm1) e.1
    unfold mendF at hf
    simp only [Bool.and_eq_true, Bool.or_eq_true] at hf
    rcases List.mem_append.1 hy with hy | hy
    · obtain ⟨rfl, hne⟩ := opt1_mem hy
      rcases hf.1.2.1 with c | c
      · rw [hne] at c; cases c
      · exact plain_in c
    · obtain ⟨rfl, hne⟩ := opt1_mem hy
      rcases hf.1.2.2 with c | c
      · rw [hne] at c; cases c
      · exact plain_in c
end Go.Vc
