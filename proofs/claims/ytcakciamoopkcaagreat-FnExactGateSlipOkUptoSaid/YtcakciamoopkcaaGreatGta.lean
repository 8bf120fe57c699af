/- Contracts: rows of fields. -/
import Derived.Test.YtcakciamoopkcaaGreatGtZ
namespace Go.Vc
open Go.Proofs
set_option maxRecDepth 100000
set_option pp.maxSteps 400
set_option pp.deepTerms false
set_option linter.unusedSimpArgs false
set_option linter.unusedVariables false
/-- a row as the program finds it -/
def rowP (rd : Bs → List Bs) (all : List Bs) : List Bs × Bool := match walkL (walk rd (all.length + 1)) all wk0 with
  | (true, u) => (u.out, true)
  | (false, _) => ([], false)
theorem rowP_ok {rd : Bs → List Bs} {all : List Bs} : (rowP rd all).2 = (walkL (walk rd (all.length + 1)) all wk0).1 := by
  unfold rowP
  split <;> (rename_i h; rw [h])
theorem rowP_no {rd : Bs → List Bs} {all : List Bs} {u : Wk} (h : walkL (walk rd (all.length + 1)) all wk0 = (false, u)) : rowP rd all = ([], false) := by
  unfold rowP; rw [h]
theorem rowP_yes {rd : Bs → List Bs} {all : List Bs} {u : Wk} (h : walkL (walk rd (all.length + 1)) all wk0 = (true, u)) : rowP rd all = (u.out, true) := by
  unfold rowP; rw [h]
def hA (lo nx : Nat) (s : GateShape) (ms : List GateMend) : Heap := ⟨[(1, oM ms), (0, oS s)], nx, lo⟩
theorem i_row (s : GateShape) (ms : List GateMend) (hm : ms.length ≤ 12) (all : List Bs) (hN : all.length ≤ big) (hin : ∀ n ∈ all, ∀ y ∈ readsF s.kind ms n, y ∈ all) (lo : Nat) :
    HSpec P 100 [.d (lS all), fnReads] (hA lo 4 s ms) (.tup [.d (lS (rowP (readsF s.kind ms) all).1), .d (.bool (rowP (readsF s.kind ms) all).2)]) (hA lo 4 s ms) := by
  refine HSpec.of_vc vcT vcM [.tmp 4, .tmp 5] Tryz.func100 rfl rfl rfl rfl rfl (fun hok => ?_)
  have hs := hN
  repeat refine And.intro rfl ?_
  refine ⟨fun m l h => ∃ (i : Nat) (u : Wk), m = all.length - i ∧ i ≤ all.length ∧ (walkL (walk (readsF s.kind ms) (all.length + 1)) all wk0 = walkL (walk (readsF s.kind ms) (all.length + 1)) (all.drop i) u ∧ WkOk (readsF s.kind ms) all u) ∧ l = [(7, .ptr 7 0), (8, .ptr 8 0), (13, .d (lS all)), (14, .d (.int .i64 (all.map eB).length)), (15, .d (.int .i64 i))] ∧ h = hW 4 s ms all u,
    ⟨_, _, _, ⟨0, _, rfl, Nat.zero_le _, ⟨rfl, wk0_ok _ _⟩, rfl, rfl⟩, rfl, rfl, ⟨rfl, rfl, rfl, rfl, rfl, trivial⟩, (by repeat' first|exact rfl|exact trivial|exact ltM_ent|refine And.intro ?_ ?_), (by repeat' first|exact rfl|exact trivial|refine And.intro ?_ ?_)⟩, ?_⟩
  rintro m l hh ⟨i, u, rfl, hi, hr, rfl, rfl⟩
  obtain ⟨hE, hI⟩ := hr
  obtain ⟨st1, out1⟩ := u
  cases out1 with
  | nil =>
    repeat refine And.intro rfl ?_
    refine And.intro (fun h1 => ?_) (fun h1 => ?_)
    · have hlt : i < all.length := lt_map h1
      have hy : all[i] ∈ all := List.getElem_mem hlt
      have hwl : white all ⟨st1, []⟩ < all.length + 1 := Nat.lt_succ_of_le (white_len _ _)
      have hc := i_walk s ms hm all all hN hin (all.length + 1) 4 all[i] ⟨st1, []⟩ hy hI hwl
      have hg := walk_good hin (all.length + 1) all[i] ⟨st1, []⟩ hy hI hwl
      rw [walkL_drop hlt] at hE
      generalize hv : walk (readsF s.kind ms) (all.length + 1) all[i] ⟨st1, []⟩ = v at hc hE hg
      obtain ⟨b3, st3, out3⟩ := v
      repeat refine And.intro rfl ?_
      refine ix_at (e := eB) (xs := all) (hlt) rfl ?_
      repeat refine And.intro rfl ?_
      cases b3 with
      | false =>
        cases out3 with
        | nil =>
          rw [rowP_no hE]
          refine Or.inr (Or.inl (Exists.intro _ (Exists.intro _ (And.intro hc ?_))))
          repeat refine And.intro rfl ?_
          refine And.intro (fun _ => ?_) (fun h => absurd h (by simp))
          refine And.intro rfl (And.intro rfl ⟨rfl, rfl, ?_, ?_, ?_⟩)
          all_goals (repeat' first | exact rfl | exact trivial | exact ltM_ent | refine And.intro ?_ ?_)
        | cons z zs =>
          rw [rowP_no hE]
          refine Or.inr (Or.inl (Exists.intro _ (Exists.intro _ (And.intro hc ?_))))
          repeat refine And.intro rfl ?_
          refine And.intro (fun _ => ?_) (fun h => absurd h (by simp))
          refine And.intro rfl (And.intro rfl ⟨rfl, rfl, ?_, ?_, ?_⟩)
          all_goals (repeat' first | exact rfl | exact trivial | exact ltM_ent | refine And.intro ?_ ?_)
      | true =>
        have hok3 : WkOk (readsF s.kind ms) all ⟨st3, out3⟩ := (hg.1 rfl).1
        cases out3 with
        | nil =>
          refine Or.inr (Or.inl (Exists.intro _ (Exists.intro _ (And.intro hc ?_))))
          repeat refine And.intro rfl ?_
          refine And.intro (fun h => absurd h (by simp)) (fun _ => ?_)
          repeat refine And.intro rfl ?_
          refine ⟨_, _, _, ⟨i + 1, ⟨st3, []⟩, rfl, hlt, ⟨hE, hok3⟩, rfl, rfl⟩, by omega, rfl, rfl, ?_, ?_, ?_⟩
          all_goals (repeat' first | exact rfl | exact trivial | exact nd (wrap_succ hlt hs) | exact ltM_ent | refine And.intro ?_ ?_)
        | cons z zs =>
          refine Or.inr (Or.inl (Exists.intro _ (Exists.intro _ (And.intro hc ?_))))
          repeat refine And.intro rfl ?_
          refine And.intro (fun h => absurd h (by simp)) (fun _ => ?_)
          repeat refine And.intro rfl ?_
          refine ⟨_, _, _, ⟨i + 1, ⟨st3, (z :: zs)⟩, rfl, hlt, ⟨hE, hok3⟩, rfl, rfl⟩, by omega, rfl, rfl, ?_, ?_, ?_⟩
          all_goals (repeat' first | exact rfl | exact trivial | exact nd (wrap_succ hlt hs) | exact ltM_ent | refine And.intro ?_ ?_)
    · rw [walkL_end (ge_map h1)] at hE
      rw [rowP_yes hE]
      refine And.intro rfl (And.intro rfl ⟨rfl, rfl, ?_, ?_, ?_⟩)
      all_goals (repeat' first | exact rfl | exact trivial | exact ltM_ent | refine And.intro ?_ ?_)
  | cons y ys =>
    repeat refine And.intro rfl ?_
    refine And.intro (fun h1 => ?_) (fun h1 => ?_)
    · have hlt : i < all.length := lt_map h1
      have hy : all[i] ∈ all := List.getElem_mem hlt
      have hwl : white all ⟨st1, (y :: ys)⟩ < all.length + 1 := Nat.lt_succ_of_le (white_len _ _)
      have hc := i_walk s ms hm all all hN hin (all.length + 1) 4 all[i] ⟨st1, (y :: ys)⟩ hy hI hwl
      have hg := walk_good hin (all.length + 1) all[i] ⟨st1, (y :: ys)⟩ hy hI hwl
      rw [walkL_drop hlt] at hE
      generalize hv : walk (readsF s.kind ms) (all.length + 1) all[i] ⟨st1, (y :: ys)⟩ = v at hc hE hg
      obtain ⟨b3, st3, out3⟩ := v
      repeat refine And.intro rfl ?_
      refine ix_at (e := eB) (xs := all) (hlt) rfl ?_
      repeat refine And.intro rfl ?_
      cases b3 with
      | false =>
        cases out3 with
        | nil =>
          rw [rowP_no hE]
          refine Or.inr (Or.inl (Exists.intro _ (Exists.intro _ (And.intro hc ?_))))
          repeat refine And.intro rfl ?_
          refine And.intro (fun _ => ?_) (fun h => absurd h (by simp))
          refine And.intro rfl (And.intro rfl ⟨rfl, rfl, ?_, ?_, ?_⟩)
          all_goals (repeat' first | exact rfl | exact trivial | exact ltM_ent | refine And.intro ?_ ?_)
        | cons z zs =>
          rw [rowP_no hE]
          refine Or.inr (Or.inl (Exists.intro _ (Exists.intro _ (And.intro hc ?_))))
          repeat refine And.intro rfl ?_
          refine And.intro (fun _ => ?_) (fun h => absurd h (by simp))
          refine And.intro rfl (And.intro rfl ⟨rfl, rfl, ?_, ?_, ?_⟩)
          all_goals (repeat' first | exact rfl | exact trivial | exact ltM_ent | refine And.intro ?_ ?_)
      | true =>
        have hok3 : WkOk (readsF s.kind ms) all ⟨st3, out3⟩ := (hg.1 rfl).1
        cases out3 with
        | nil =>
          refine Or.inr (Or.inl (Exists.intro _ (Exists.intro _ (And.intro hc ?_))))
          repeat refine And.intro rfl ?_
          refine And.intro (fun h => absurd h (by simp)) (fun _ => ?_)
          repeat refine And.intro rfl ?_
          refine ⟨_, _, _, ⟨i + 1, ⟨st3, []⟩, rfl, hlt, ⟨hE, hok3⟩, rfl, rfl⟩, by omega, rfl, rfl, ?_, ?_, ?_⟩
          all_goals (repeat' first | exact rfl | exact trivial | exact nd (wrap_succ hlt hs) | exact ltM_ent | refine And.intro ?_ ?_)
        | cons z zs =>
          refine Or.inr (Or.inl (Exists.intro _ (Exists.intro _ (And.intro hc ?_))))
          repeat refine And.intro rfl ?_
          refine And.intro (fun h => absurd h (by simp)) (fun _ => ?_)
          repeat refine And.intro rfl ?_
          refine ⟨_, _, _, ⟨i + 1, ⟨st3, (z :: zs)⟩, rfl, hlt, ⟨hE, hok3⟩, rfl, rfl⟩, by omega, rfl, rfl, ?_, ?_, ?_⟩
          all_goals (repeat' first | exact rfl | exact trivial | exact nd (wrap_succ hlt hs) | exact ltM_ent | refine And.intro ?_ ?_)
    · rw [walkL_end (ge_map h1)] at hE
      rw [rowP_yes hE]
      refine And.intro rfl (And.intro rfl ⟨rfl, rfl, ?_, ?_, ?_⟩)
      all_goals (repeat' first | exact rfl | exact trivial | exact ltM_ent | refine And.intro ?_ ?_)
/-- no field at all -/
theorem i_row0 (s : GateShape) (ms : List GateMend) (lo : Nat) : HSpec P 100 [.nils, fnReads] (hA lo 2 s ms) (.tup [.d (lS []), .d (.bool true)]) (hA lo 2 s ms) := by
  refine HSpec.of_vc vcT vcM [.tmp 4, .tmp 5] Tryz.func100 rfl rfl rfl rfl rfl (fun hok => ?_)
  have hs : ([] : List Bs).length ≤ big := Nat.zero_le _
  repeat refine And.intro rfl ?_
  refine ⟨fun m l h => ∃ (i : Nat) , m = ([] : List Bs).length - i ∧ i ≤ ([] : List Bs).length ∧ (True) ∧ l = [(7, .ptr 5 0), (13, .nils), (14, .d (.int .i64 0)), (15, .d (.int .i64 i))] ∧ h = ⟨[(5, .cells 27 [.nils]), (1, oM ms), (0, oS s)], 7, 2⟩,
    ⟨_, _, _, ⟨0, rfl, Nat.zero_le _, trivial, rfl, rfl⟩, rfl, rfl, ⟨rfl, rfl, rfl, rfl, trivial⟩, (by repeat' first|exact rfl|exact trivial|refine And.intro ?_ ?_), (by repeat' first|exact rfl|exact trivial|refine And.intro ?_ ?_)⟩, ?_⟩
  rintro m l hh ⟨i, rfl, hi, hr, rfl, rfl⟩
  repeat refine And.intro rfl ?_
  refine And.intro (fun h1 => ?_) (fun h1 => ?_)
  · exact absurd (of_decide_eq_true h1) (by omega)
  · refine And.intro rfl (And.intro rfl ⟨rfl, rfl, ?_, ?_, ?_⟩)
    all_goals (repeat' first | exact rfl | exact trivial | refine And.intro ?_ ?_)
/-- a row of a kind's fields -/
theorem i_rowOf (s : GateShape) (ms : List GateMend) (hm : ms.length ≤ 12) (hin : ∀ n ∈ namesF s, ∀ y ∈ readsF s.kind ms n, y ∈ namesF s) :
    Spec P 90 [st s.e, .d (lGateMend ms)] (.tup [.d (lS (rowP (readsF s.kind ms) (namesF s)).1), .d (.bool (rowP (readsF s.kind ms) (namesF s)).2)]) := by
  refine Spec.of_vc vcT vcM [.tmp 4, .tmp 5] Tryz.func90 rfl rfl rfl rfl (fun hok => ?_)
  have hs : s.fields.length ≤ big := by
    have := hok.1
    simp only [st, AV.ok, GateShape.e, List.map, okAs] at this
    exact len_map this.2.1.1
  repeat refine And.intro rfl ?_
  refine ⟨fun m l h => ∃ (i : Nat) (A : List Bs), m = s.fields.length - i ∧ i ≤ s.fields.length ∧ (A = (s.fields.take i).map (·.name)) ∧ l = [(2, .ptr 0 0), (3, .ptr 1 0), (6, rowAV 3 A), (10, .d (lGateField s.fields)), (11, .d (.int .i64 (s.fields.map GateField.e).length)), (12, .d (.int .i64 i))] ∧ h = ⟨(rowHp [(1, oM ms), (0, oS s)] 2 3 A).objs, (rowHp [(1, oM ms), (0, oS s)] 2 3 A).nx, 0⟩,
    ⟨_, _, _, ⟨0, _, rfl, Nat.zero_le _, rfl, rfl, rfl⟩, rfl, rfl, ⟨rfl, rfl, rfl, rfl, rfl, rfl, trivial⟩, (by repeat' first|exact rfl|exact trivial|refine And.intro ?_ ?_), (by repeat' first|exact rfl|exact trivial|refine And.intro ?_ ?_)⟩, ?_⟩
  rintro m l hh ⟨i, A, rfl, hi, hr, rfl, rfl⟩
  have hA : A.length ≤ s.fields.length := by rw [hr, List.length_map, List.length_take]; omega
  have hA2 : A.length ≤ i := by rw [hr, List.length_map, List.length_take]; omega
  repeat refine And.intro rfl ?_
  refine And.intro (fun h1 => ?_) (fun h1 => ?_)
  · have hlt : i < s.fields.length := lt_map h1
    have hstep : (s.fields.take (i + 1)).map (·.name) = A ++ [s.fields[i].name] := by
      rw [List.take_succ_eq_append_getElem hlt, List.map_append, ← hr]; rfl
    repeat refine And.intro rfl ?_
    refine ix_at (e := GateField.e) (xs := s.fields) (hlt) rfl ?_
    repeat refine And.intro rfl ?_
    cases A with
    | nil =>
      repeat refine And.intro rfl ?_
      refine And.intro (fun r hr => by rw [List.mem_singleton.1 hr]; rfl) ?_
      repeat refine And.intro rfl ?_
      refine And.intro (by simp only [List.length_nil, List.length_cons, List.length_map] at *; unfold big; omega) ?_
      repeat refine And.intro rfl ?_
      refine ⟨_, _, _, ⟨i + 1, [s.fields[i].name], rfl, hlt, by rw [hstep]; rfl, rfl, rfl⟩, by omega, rfl, rfl, ?_, ?_, ?_⟩
      all_goals (repeat' first | exact rfl | exact trivial | exact nd (wrap_succ hlt hs) | refine And.intro ?_ ?_)
    | cons a tl =>
      repeat refine And.intro rfl ?_
      refine And.intro (fun r hr => by rw [List.mem_singleton.1 hr]; rfl) ?_
      repeat refine And.intro rfl ?_
      refine And.intro (by simp only [List.length_append, List.length_nil, List.length_cons, List.length_map] at *; unfold big at *; omega) ?_
      repeat refine And.intro rfl ?_
      refine ⟨_, _, _, ⟨i + 1, (a :: (tl ++ [s.fields[i].name])), rfl, hlt, by rw [hstep]; rfl, rfl, rfl⟩, by omega, rfl, rfl, ?_, ?_, ?_⟩
      all_goals (repeat' first | exact rfl | exact trivial | exact nd (wrap_succ hlt hs) | exact row_app1 _ _ _ _ _ | refine And.intro ?_ ?_)
  · have ha : A = namesF s := by rw [hr, List.take_of_length_le (ge_map h1)]; rfl
    rw [← ha] at hin ⊢
    cases A with
    | nil =>
      repeat refine And.intro rfl ?_
      refine Or.inr (Or.inl (Exists.intro _ (Exists.intro _ (And.intro (i_row0 s ms _) ?_))))
      rfl
    | cons a tl =>
      repeat refine And.intro rfl ?_
      refine Or.inr (Or.inr (Exists.intro _ (Exists.intro _ (And.intro (i_row s ms hm (a :: tl) (Nat.le_trans hA hs) hin _) ?_))))
      rfl
def rowOk (s : GateShape) (ms : List GateMend) : Bool := ((rowF s ms).length : Int) == (s.fields.length : Int)
theorem rowP_rowOk {xs : List GateShape} {ms : List GateMend} (h : shapesOk xs = true) (hm : ms.all (mendOkF xs) = true) {s : GateShape} (hs : s ∈ xs) : (rowP (readsF s.kind ms) (namesF s)).2 = rowOk s ms := by
  rw [rowP_ok, walk_greedy (shapes_nodup h hs) (fun n _ => reads_in h hm hs n)]
  have e : (namesF s).length = s.fields.length := by rw [namesF, List.length_map]
  unfold rowOk rowF gr
  rw [e, Bool.eq_iff_iff, decide_eq_true_eq, beq_iff_eq]
  omega
theorem mendOk_at {xs : List GateShape} {m : GateMend} {j : Nat} (hj : j < xs.length) (e : idx (·.kind == m.kind) xs = (j : Int)) : mendOkF xs m = mendF xs[j].fields m := by
  unfold mendOkF
  rw [e, Int.toNat_natCast, List.getElem?_eq_getElem hj]
  have : decide ((j : Int) ≥ 0) = true := decide_eq_true (by omega)
  simp only [this, Bool.true_and]
theorem mendOk_none {xs : List GateShape} {m : GateMend} (h : decide (idx (·.kind == m.kind) xs < 0) = true) : mendOkF xs m = false := by
  have h' : decide (idx (·.kind == m.kind) xs ≥ 0) = false := decide_eq_false (by have := of_decide_eq_true h; omega)
  unfold mendOkF
  split <;> simp only [h', Bool.false_and]
theorem i_GateMendsOk (xs : List GateShape) (ms : List GateMend) : Spec P 75 [.d (lGateShape xs), .d (lGateMend ms)] (.d (.bool (mendsOk xs ms))) := by
  refine Spec.of_vc vcT vcM [.tmp 4] Tryz.func75 rfl rfl rfl rfl (fun hok => ?_)
  have hs : xs.length ≤ big := len_map hok.1.1
  have hsm : ms.length ≤ big := len_map hok.2.1.1
  repeat refine And.intro rfl ?_
  refine Or.inl (Exists.intro _ (And.intro (i_GateShapesOk _) ?_))
  repeat refine And.intro rfl ?_
  refine And.intro (fun h0 => ?_) (fun h0 => ?_)
  · simp only [Bool.not_eq_true', Bool.not_eq_false'] at h0
    repeat refine And.intro rfl ?_
    refine And.intro (fun h1 => ?_) (fun h1 => ?_)
    · rw [List.length_map] at h1
      refine bd ?_
      simp only [mendsOk, h1, Bool.not_true, Bool.false_and, Bool.and_false]
    · rw [List.length_map] at h1
      have hm12 : ms.length ≤ 12 := by have := of_decide_eq_false h1; omega
      have e : mendsOk xs ms = (ms.all (mendOkF xs) && xs.all fun s => rowOk s ms) := by simp only [mendsOk, h0, h1, Bool.not_false, Bool.true_and]; rfl
      rw [e]
      repeat refine And.intro rfl ?_
      refine ⟨fun m l h => ∃ (i : Nat) , m = ms.length - i ∧ i ≤ ms.length ∧ (ms.all (mendOkF xs) = (ms.drop i).all (mendOkF xs)) ∧ l = [(0, .d (lGateShape xs)), (1, .d (lGateMend ms)), (20, .d (lGateMend ms)), (21, .d (.int .i64 (ms.map GateMend.e).length)), (22, .d (.int .i64 i))] ∧ h = hp0,
        ⟨_, _, _, ⟨0, rfl, Nat.zero_le _, rfl, rfl, rfl⟩, rfl, rfl, ⟨rfl, rfl, rfl, rfl, rfl, trivial⟩, trivial, trivial⟩, ?_⟩
      rintro m l hh ⟨i, rfl, hi, hr, rfl, rfl⟩
      repeat refine And.intro rfl ?_
      refine And.intro (fun h2 => ?_) (fun h2 => ?_)
      · have hlt : i < ms.length := lt_map h2
        rw [all_step hlt] at hr
        repeat refine And.intro rfl ?_
        refine ix_at (e := GateMend.e) (xs := ms) (hlt) rfl ?_
        repeat refine And.intro rfl ?_
        repeat refine And.intro rfl ?_
        refine Or.inl (Exists.intro _ (And.intro (i_shapeOf _ _) ?_))
        repeat refine And.intro rfl ?_
        refine And.intro (by kernel_rfl) ?_
        repeat refine And.intro rfl ?_
        repeat refine And.intro rfl ?_
        refine And.intro (fun h3 => ?_) (fun h3 => ?_)
        · obtain ⟨j, hj, ej, _⟩ := idx_pos (p := fun s : GateShape => s.kind == ms[i].kind) (xs := xs) (decide_eq_true (by have := of_decide_eq_false h3; omega))
          repeat refine And.intro rfl ?_
          refine ix_atw (e := GateShape.e) (xs := xs) (hj) (ej) rfl ?_
          repeat refine And.intro rfl ?_
          repeat refine And.intro rfl ?_
          refine Or.inl (Exists.intro _ (And.intro (i_mendOk _ _) ?_))
          rw [mendOk_at hj ej] at hr
          repeat refine And.intro rfl ?_
          refine And.intro (fun h4 => ?_) (fun h4 => ?_)
          · change (!mendF xs[j].fields ms[i]) = true at h4
            simp only [Bool.not_eq_true', Bool.not_eq_false'] at h4
            refine bd ?_
            rw [hr, h4]; rfl
          · change (!mendF xs[j].fields ms[i]) = false at h4
            simp only [Bool.not_eq_true', Bool.not_eq_false'] at h4
            repeat refine And.intro rfl ?_
            exact ⟨_, _, _, ⟨i + 1, rfl, hlt, by rw [hr, h4]; rfl, rfl, rfl⟩, by omega, rfl, rfl, ⟨rfl, rfl, rfl, rfl, nd (wrap_succ hlt hsm), trivial⟩, trivial, trivial⟩
        · repeat refine And.intro rfl ?_
          refine And.intro (fun _ => ?_) (fun h => absurd h (by simp))
          refine bd ?_
          rw [hr, mendOk_none h3]; rfl
      · rw [all_end (ge_map h2)] at hr
        rw [hr, Bool.true_and]
        repeat refine And.intro rfl ?_
        refine ⟨fun m l h => ∃ (i : Nat) , m = xs.length - i ∧ i ≤ xs.length ∧ ((xs.all fun s => rowOk s ms) = ((xs.drop i).all fun s => rowOk s ms)) ∧ l = [(0, .d (lGateShape xs)), (1, .d (lGateMend ms)), (43, .d (lGateShape xs)), (44, .d (.int .i64 (xs.map GateShape.e).length)), (45, .d (.int .i64 i))] ∧ h = hp0,
          ⟨_, _, _, ⟨0, rfl, Nat.zero_le _, rfl, rfl, rfl⟩, rfl, rfl, ⟨rfl, rfl, rfl, rfl, rfl, trivial⟩, trivial, trivial⟩, ?_⟩
        rintro m l hh ⟨i, rfl, hi, hr, rfl, rfl⟩
        repeat refine And.intro rfl ?_
        refine And.intro (fun h5 => ?_) (fun h5 => ?_)
        · have hlt : i < xs.length := lt_map h5
          rw [all_step hlt] at hr
          repeat refine And.intro rfl ?_
          refine ix_at (e := GateShape.e) (xs := xs) (hlt) rfl ?_
          repeat refine And.intro rfl ?_
          repeat refine And.intro rfl ?_
          refine Or.inl (Exists.intro _ (And.intro (i_rowOf xs[i] ms hm12 (fun n _ => reads_in h0 (by assumption) (List.getElem_mem hlt) n)) ?_))
          rw [rowP_rowOk h0 (by assumption) (List.getElem_mem hlt)]
          repeat refine And.intro rfl ?_
          refine And.intro (fun h6 => ?_) (fun h6 => ?_)
          · simp only [Bool.not_eq_true', Bool.not_eq_false'] at h6
            refine bd ?_
            rw [hr, h6]; rfl
          · simp only [Bool.not_eq_true', Bool.not_eq_false'] at h6
            repeat refine And.intro rfl ?_
            exact ⟨_, _, _, ⟨i + 1, rfl, hlt, by rw [hr, h6]; rfl, rfl, rfl⟩, by omega, rfl, rfl, ⟨rfl, rfl, rfl, rfl, nd (wrap_succ hlt hs), trivial⟩, trivial, trivial⟩
        · refine bd ?_
          rw [hr, all_end (ge_map h5)]
  · simp only [Bool.not_eq_true', Bool.not_eq_false'] at h0
    refine bd ?_
    simp only [mendsOk, h0, Bool.false_and]
end Go.Vc
