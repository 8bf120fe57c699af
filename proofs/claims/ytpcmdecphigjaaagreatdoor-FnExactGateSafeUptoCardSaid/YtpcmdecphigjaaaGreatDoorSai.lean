/- Part 9 of a proof: Contracts: mended objects of the program; shaped objects. Contracts: an object's links that are set. Contracts: the objects of a book. Contracts: the objects of a book, by the specification. Contracts: the grants of a book. Contracts: teams under teams; what objects weigh; sums. Contracts: what is used of a resource; what is out. The sums of a book: pure part. Entries of a map of accounts. -/
import Derived.Test.YtpcmdecphigjaaaGreatDoorSaa
import Derived.Test.YtpcmdecphigjaaaGreatDoorSab
import Derived.Test.YtpcmdecphigjaaaGreatDoorSac
import Derived.Test.YtpcmdecphigjaaaGreatDoorSad
import Derived.Test.YtpcmdecphigjaaaGreatDoorSae
import Derived.Test.YtpcmdecphigjaaaGreatDoorSaf
import Derived.Test.YtpcmdecphigjaaaGreatDoorSag
import Derived.Test.YtpcmdecphigjaaaGreatDoorSah
section
namespace Go.Vc
open Go.Proofs
set_option maxRecDepth 100000
set_option pp.maxSteps 400
set_option pp.deepTerms false
set_option linter.unusedSimpArgs false
set_option linter.unusedVariables false
theorem s_l3Shaped (xs : List GateShape) (ms : List GateMend) (o : GateObject) (hx : shapesOk xs = true) (hm : ms.all (mendOkF xs) = true) :
    Spec P 110 [.d (lGateShape xs), .d (lGateMend ms), st o.e] (st (mendedF xs ms (filled xs o)).e) := by
  refine Spec.of_vc vcT vcM [.cell 6 145] Tryz.func110 rfl rfl rfl rfl (fun hok => ?_)
  repeat refine And.intro rfl ?_
  refine Or.inl (Exists.intro _ (And.intro (s_l2Fill _ _) ?_))
  repeat refine And.intro rfl ?_
  refine Or.inl (Exists.intro _ (And.intro (s_l3Mended xs ms (filled xs o) hx hm) ?_))
  repeat refine And.intro rfl ?_
  exact rfl
/-- the closure of GateMended, called there -/
theorem i_mendVal (fs : List GateField) (o : GateObject) (n : Bs) (hl : o.values.length = fs.length) (hn : n ∈ fs.map (·.name)) : Spec P 204 [.d (.str n), .at_ o.e, .at_ [lGateField fs]] (.d (.str (valAt fs o.values n))) := by
  refine Spec.of_vc vcT vcM [.tmp 4] Tryz.func204 rfl rfl rfl rfl (fun hok => ?_)
  obtain ⟨j, hj, e, _⟩ := place_lt hn
  repeat refine And.intro rfl ?_
  refine And.intro (by kernel_rfl) ?_
  repeat refine And.intro rfl ?_
  repeat refine And.intro rfl ?_
  refine Or.inl (Exists.intro _ (And.intro (i_placeOf _ _) ?_))
  repeat refine And.intro rfl ?_
  refine ix_atw (e := eB) (xs := o.values) ((show j < o.values.length by omega)) (e) rfl ?_
  repeat refine And.intro rfl ?_
  refine sd ?_
  rw [valAt_eq e (by omega)]
theorem nbf {b : Bool} (h : (!b) = false) : b = true := by simpa using h
theorem nbt {b : Bool} (h : (!b) = true) : b = false := by simpa using h
theorem mends_split {xs : List GateShape} {ms : List GateMend} (h : mendsOk xs ms = true) : shapesOk xs = true ∧ ms.all (mendOkF xs) = true ∧ ms.length ≤ 12 ∧ ∀ s ∈ xs, rowOk s ms = true := by
  unfold mendsOk at h
  simp only [Bool.and_eq_true, Bool.not_eq_true', decide_eq_false_iff_not] at h
  obtain ⟨h1, h2, h3, h4⟩ := h
  exact ⟨h1, h3, by omega, fun s hs => List.all_eq_true.1 h4 s hs⟩
theorem row_same {xs : List GateShape} {ms : List GateMend} (h : mendsOk xs ms = true) {s : GateShape} (hs : s ∈ xs) {vals : List Bs} (hl : vals.length = s.fields.length) :
    mendV s.fields ms s.kind (rowP (readsF s.kind ms) (namesF s)).1 vals = mendV s.fields ms s.kind (rowF s ms) vals := by
  obtain ⟨h1, h2, h3, h4⟩ := mends_split h
  have hr := h4 s hs
  have hnd := shapes_nodup h1 hs
  have hin : ∀ n ∈ namesF s, ∀ y ∈ readsF s.kind ms n, y ∈ namesF s := fun n _ => reads_in h1 h2 hs n
  obtain ⟨g1, g2⟩ := rowP_good hin (by rw [rowP_rowOk h1 h2 hs]; exact hr)
  have g := rowF_good s ms
  refine mendV_order hnd g1 g g2 (full_mem hnd g.nd g.sub ?_) hl
  unfold rowOk at hr
  have := beq_iff_eq.1 hr
  show _ = (s.fields.map (·.name)).length
  rw [List.length_map]
  omega
theorem mendV_nil (fs : List GateField) (ms : List GateMend) (k : Bs) : ∀ row : List Bs, mendV fs ms k row [] = []
  | [] => rfl
  | n :: row => by
    show mendV fs ms k row (mendStep fs ms k [] n) = []
    have : mendStep fs ms k [] n = [] := by unfold mendStep; rfl
    rw [this]; exact mendV_nil fs ms k row
theorem mendedF_nil {xs : List GateShape} {ms : List GateMend} {o : GateObject} (h : o.values = []) : mendedF xs ms o = o := by
  unfold mendedF
  split
  · cases (fieldsF xs o.kind o.values.length).2
    · rfl
    · rw [cond_true]
      cases o
      simp only at h
      subst h
      simp only [mendV_nil]
  · rfl
set_option maxHeartbeats 1000000 in
theorem i_GateMended0 (xs : List GateShape) (ms : List GateMend) (o : GateObject) (hv : o.values = []) : Spec P 168 [.d (lGateShape xs), .d (lGateMend ms), st o.e] (st o.e) := by
  refine Spec.of_vc vcT vcM [.cell 6 145] Tryz.func168 rfl rfl rfl rfl (fun hok => ?_)
  have hsm : ms.length ≤ big := len_map hok.2.1.1
  repeat refine And.intro rfl ?_
  refine Or.inl (Exists.intro _ (And.intro (i_twin _) ?_))
  repeat refine And.intro rfl ?_
  repeat refine And.intro rfl ?_
  refine Or.inl (Exists.intro _ (And.intro (i_fieldsOf _ _) ?_))
  repeat refine And.intro rfl ?_
  refine And.intro (fun h0 => ?_) (fun h0 => ?_)
  · repeat refine And.intro rfl ?_
    refine Or.inl (Exists.intro _ (And.intro (i_GateMendsOk _ _) ?_))
    repeat refine And.intro rfl ?_
    refine And.intro (fun h1 => ?_) (fun h1 => ?_)
    · repeat refine And.intro rfl ?_
      exact rfl
    · simp only [Bool.not_eq_false'] at h0 h1
      obtain ⟨hx, hm, hm12, hro⟩ := mends_split h1
      rcases fieldsF_spec (xs := xs) (k := o.kind) (n := o.values.length) with ⟨h2, _⟩ | ⟨j, hj, ej, ef, hl, hk⟩
      · rw [h2] at h0; cases h0
      have hjm := List.getElem_mem hj
      have hin : ∀ n ∈ namesF xs[j], ∀ y ∈ readsF xs[j].kind ms n, y ∈ namesF xs[j] := fun n _ => reads_in hx hm hjm n
      have hn0 : namesF xs[j] = [] := by
        have : (namesF xs[j]).length = xs[j].fields.length := List.length_map ..
        rw [hl, hv] at this
        exact List.eq_nil_of_length_eq_zero this
      repeat refine And.intro rfl ?_
      refine Or.inl (Exists.intro _ (And.intro (i_shapeOf _ _) ?_))
      repeat refine And.intro rfl ?_
      refine ix_atw (e := GateShape.e) (xs := xs) (hj) (ej) rfl ?_
      repeat refine And.intro rfl ?_
      repeat refine And.intro rfl ?_
      refine Or.inl (Exists.intro _ (And.intro (i_rowOf xs[j] ms hm12 hin) ?_))
      rw [hn0]
      generalize fieldsF xs o.kind o.values.length = ff at *
      repeat refine And.intro rfl ?_
      refine ⟨fun m l h => ∃ (i : Nat) , m = ([] : List Bs).length - i ∧ i ≤ ([] : List Bs).length ∧ (True) ∧ l = [(5, .ptr 0 0), (6, .ptr 1 0), (47, .d (lS [])), (48, .d (.int .i64 0)), (49, .d (.int .i64 i))] ∧ h = ⟨[(0, .cells 145 [.d (.str o.kind), .d (.str o.name), .d (.str o.team), .d (lS o.values), .d (.bool o.ending), .d (lS o.holds), .d (.int .i64 o.version)]), (1, .cells 145 [.d (.str []), .d (.str []), .d (.str []), .nils, .d (.bool false), .nils, .d (.int .i64 0)])], 2, 0⟩,
        ⟨_, _, _, ⟨0, rfl, Nat.zero_le _, trivial, rfl, rfl⟩, rfl, rfl, ⟨rfl, rfl, rfl, rfl, rfl, trivial⟩, (by repeat' first|exact rfl|exact trivial|refine And.intro ?_ ?_), (by repeat' first|exact rfl|exact trivial|refine And.intro ?_ ?_)⟩, ?_⟩
      rintro m l hh ⟨i, rfl, hi, hr, rfl, rfl⟩
      repeat refine And.intro rfl ?_
      refine And.intro (fun g1 => ?_) (fun g1 => ?_)
      · exact absurd (of_decide_eq_true g1) (by omega)
      · repeat refine And.intro rfl ?_
        exact rfl
  · repeat refine And.intro rfl ?_
    exact rfl
set_option maxHeartbeats 4000000 in
theorem i_GateMended1 (xs : List GateShape) (ms : List GateMend) (o : GateObject) (hpos : 0 < o.values.length) : Spec P 168 [.d (lGateShape xs), .d (lGateMend ms), st o.e] (st (bif mendsOk xs ms then mendedF xs ms o else o).e) := by
  refine Spec.of_vc vcT vcM [.cell 6 145] Tryz.func168 rfl rfl rfl rfl (fun hok => ?_)
  have hb := ok_obj (o := o) ⟨hok.2.2.1, trivial⟩
  have hsm : ms.length ≤ big := len_map hok.2.1.1
  repeat refine And.intro rfl ?_
  refine Or.inr (Or.inr (Or.inr (Or.inr (Or.inr (Exists.intro _ (Exists.intro _ (And.intro rfl (And.intro (i_twinO o hpos) ?_))))))))
  repeat refine And.intro rfl ?_
  repeat refine And.intro rfl ?_
  refine Or.inr (Or.inr (Or.inr (Or.inr (Or.inl (Exists.intro _ (And.intro (fun g => i_fieldsOfL xs o g 4) ?_))))))
  repeat refine And.intro rfl ?_
  refine And.intro (fun h0 => ?_) (fun h0 => ?_)
  · repeat refine And.intro rfl ?_
    refine Or.inl (Exists.intro _ (And.intro (i_GateMendsOk _ _) ?_))
    repeat refine And.intro rfl ?_
    refine And.intro (fun h1 => ?_) (fun h1 => ?_)
    · simp only [Bool.not_eq_true', Bool.not_eq_false'] at h0 h1
      rw [h1]
      repeat refine And.intro rfl ?_
      exact rfl
    · simp only [Bool.not_eq_false'] at h0 h1
      obtain ⟨hx, hm, hm12, hro⟩ := mends_split h1
      rcases fieldsF_spec (xs := xs) (k := o.kind) (n := o.values.length) with ⟨h2, _⟩ | ⟨j, hj, ej, ef, hl, hk⟩
      · rw [h2] at h0; cases h0
      have hjm := List.getElem_mem hj
      have hres : (bif mendsOk xs ms then mendedF xs ms o else o) = { o with values := mendV xs[j].fields ms o.kind (rowP (readsF o.kind ms) (namesF xs[j])).1 o.values } := by
        have := row_same h1 hjm (vals := o.values) hl.symm
        rw [hk] at this
        rw [h1, cond_true, mendedF_at hj ej h0, this]
      rw [hres]
      have hin : ∀ n ∈ namesF xs[j], ∀ y ∈ readsF xs[j].kind ms n, y ∈ namesF xs[j] := fun n _ => reads_in hx hm hjm n
      obtain ⟨g, _⟩ := rowP_good hin (by rw [rowP_rowOk hx hm hjm]; exact hro _ hjm)
      have hmi := mendIn_of hx hm hjm
      rw [hk] at hmi
      have hfs : (fieldsF xs o.kind o.values.length).1 = xs[j].fields := by rw [ef]
      rw [hfs]
      repeat refine And.intro rfl ?_
      refine Or.inl (Exists.intro _ (And.intro (i_shapeOf _ _) ?_))
      repeat refine And.intro rfl ?_
      refine ix_atw (e := GateShape.e) (xs := xs) (hj) (ej) rfl ?_
      repeat refine And.intro rfl ?_
      repeat refine And.intro rfl ?_
      refine Or.inl (Exists.intro _ (And.intro (i_rowOf xs[j] ms hm12 hin) ?_))
      rw [hk]
      rw [hk] at g
      have hsub : ∀ x ∈ (rowP (readsF o.kind ms) (namesF xs[j])).1, x ∈ xs[j].fields.map (·.name) := g.sub
      have hrl : (rowP (readsF o.kind ms) (namesF xs[j])).1.length ≤ xs[j].fields.length := by
        have := len_of_sub g.nd g.sub
        have e : (namesF xs[j]).length = xs[j].fields.length := List.length_map ..
        rw [e] at this
        exact this
      generalize (rowP (readsF o.kind ms) (namesF xs[j])).2 = rb at *
      generalize (rowP (readsF o.kind ms) (namesF xs[j])).1 = row at *
      generalize xs[j].fields = fs at *
      repeat refine And.intro rfl ?_
      refine ⟨fun m l h => ∃ (i : Nat) (W : List Bs), m = row.length - i ∧ i ≤ row.length ∧ (W = mendV fs ms o.kind (row.take i) o.values) ∧ l = [(1, .d (lGateMend ms)), (5, .ptr 0 0), (6, .ptr 1 0), (7, .ptr 5 0), (11, .fn 204 [.ptr 0 0, .ptr 5 0]), (47, .d (lS row)), (48, .d (.int .i64 (row.map eB).length)), (49, .d (.int .i64 i))] ∧ h = ⟨[(5, .cells 137 [.d (lGateField fs)]), (4, .row 9 1 (W.map eB)), (1, .cells 145 [.d (.str []), .d (.str []), .d (.str []), .nils, .d (.bool false), .nils, .d (.int .i64 0)]), (0, .cells 145 [.d (.str o.kind), .d (.str o.name), .d (.str o.team), .own 4, .d (.bool o.ending), .d (lS o.holds), .d (.int .i64 o.version)])], 6, 0⟩,
        ⟨_, _, _, ⟨0, _, rfl, Nat.zero_le _, rfl, rfl, rfl⟩, rfl, rfl, ⟨rfl, rfl, rfl, rfl, rfl, rfl, rfl, rfl, trivial⟩, (by repeat' first|exact rfl|exact trivial|refine And.intro ?_ ?_), (by repeat' first|exact rfl|exact trivial|refine And.intro ?_ ?_)⟩, ?_⟩
      rintro m l hh ⟨i, W, rfl, hi, hr, rfl, rfl⟩
      have hs : row.length ≤ big := by omega
      have hW : W.length = fs.length := by rw [hr, mendV_len, hl]
      repeat refine And.intro rfl ?_
      refine And.intro (fun g1 => ?_) (fun g1 => ?_)
      · have hlt : i < row.length := lt_map g1
        have hnin := hsub _ (List.getElem_mem hlt)
        obtain ⟨p, hp, ep, _⟩ := place_lt hnin
        have hst : mendV fs ms o.kind (row.take (i + 1)) o.values = mendStep fs ms o.kind W row[i] := by rw [mendV_step hlt, ← hr]
        have hpt : (idx (·.name == row[i]) fs).toNat < W.length := by rw [ep]; omega
        repeat refine And.intro rfl ?_
        refine ix_at (e := eB) (xs := row) (hlt) rfl ?_
        repeat refine And.intro rfl ?_
        generalize row[i] = nm at *
        have hrW := hr
        clear hr
        repeat refine And.intro rfl ?_
        refine ⟨fun m l h => ∃ (q : Nat) , m = ms.length - q ∧ q ≤ ms.length ∧ (decV fs ms o.kind W nm = decE (valAt fs W) o.kind nm (valAt fs W nm) (ms.drop q)) ∧ l = [(1, .d (lGateMend ms)), (5, .ptr 0 0), (6, .ptr 1 0), (7, .ptr 5 0), (11, .fn 204 [.ptr 0 0, .ptr 5 0]), (13, .d (.str nm)), (47, .d (lS row)), (48, .d (.int .i64 (row.map eB).length)), (49, .d (.int .i64 i)), (53, .d (lGateMend ms)), (54, .d (.int .i64 (ms.map GateMend.e).length)), (55, .d (.int .i64 q))] ∧ h = ⟨[(5, .cells 137 [.d (lGateField fs)]), (4, .row 9 1 (W.map eB)), (1, .cells 145 [.d (.str []), .d (.str []), .d (.str []), .nils, .d (.bool false), .nils, .d (.int .i64 0)]), (0, .cells 145 [.d (.str o.kind), .d (.str o.name), .d (.str o.team), .own 4, .d (.bool o.ending), .d (lS o.holds), .d (.int .i64 o.version)])], 6, 0⟩,
          ⟨_, _, _, ⟨0, rfl, Nat.zero_le _, rfl, rfl, rfl⟩, rfl, rfl, ⟨rfl, rfl, rfl, rfl, rfl, rfl, rfl, rfl, rfl, rfl, rfl, rfl, trivial⟩, (by repeat' first|exact rfl|exact trivial|refine And.intro ?_ ?_), (by repeat' first|exact rfl|exact trivial|refine And.intro ?_ ?_)⟩, ?_⟩
        rintro m l hh ⟨q, rfl, hq, hr, rfl, rfl⟩
        have hsq : ms.length ≤ big := hsm
        repeat refine And.intro rfl ?_
        refine And.intro (fun g2 => ?_) (fun g2 => ?_)
        · have hlq : q < ms.length := lt_map g2
          rw [decE_step hlq] at hr
          have hmq := hmi ms[q] (List.getElem_mem hlq)
          generalize hd : decE (valAt fs W) o.kind nm (valAt fs W nm) (ms.drop (q + 1)) = rest at hr
          repeat refine And.intro rfl ?_
          refine ix_at (e := GateMend.e) (xs := ms) (hlq) rfl ?_
          repeat refine And.intro rfl ?_
          have hpi : (0 : Int) ≤ idx (·.name == nm) fs := by rw [ep]; exact Int.natCast_nonneg _
          have hpl : idx (·.name == nm) fs < ((W.map eB).length : Int) := by rw [ep, List.length_map]; omega
          have hget : (W.map eB)[(idx (·.name == nm) fs).toNat]? = some (eB W[(idx (·.name == nm) fs).toNat]) := by rw [List.getElem?_map, List.getElem?_eq_getElem hpt]; rfl
          repeat' first
            | refine And.intro rfl ?_
            | refine And.intro (fun h => ?_) (fun h => ?_)
            | refine Or.inr (Or.inr (Or.inr (Or.inl (Exists.intro _ (And.intro rfl (And.intro (i_mendVal fs { o with values := W } ms[q].when_ hW ((hmq (nbf (by assumption))).1 (nbt (by assumption)))) ?_))))))
            | refine Or.inr (Or.inr (Or.inr (Or.inl (Exists.intro _ (And.intro rfl (And.intro (i_mendVal fs { o with values := W } ms[q].from_ hW ((hmq (nbf (by assumption))).2 (nbt (by assumption)))) ?_))))))
            | refine Or.inl (Exists.intro _ (And.intro (i_placeOf _ _) ?_))
            | refine And.intro (by kernel_rfl) (And.intro (by kernel_rfl) ?_)
            | refine And.intro (by kernel_rfl) ?_
            | refine And.intro hpi (And.intro hpl ?_)
            | refine ⟨_, hget, Nat.le_refl _, ?_⟩
          all_goals clear hok hmi hin hres g hro hpl hpi hget hsub
          all_goals first
            | (exfalso; clear hrW hr hst hd hmq hpt ep hnin g1 g2 hW hrl hfs hl ef hk hjm ej hm hx h1 h0 hsm hb; simp only [cond_false, cond_true, Bool.not_eq_true', Bool.not_eq_false', reduceCtorEq, Bool.true_eq_false, Bool.false_eq_true] at *; done)
            | (exfalso; clear hrW hr hst hd hmq hpt ep hnin g1 g2 hW hrl hfs hl ef hk hjm ej hm hx h1 h0 hsm hb; simp only [cond_false, cond_true, Bool.not_eq_true', Bool.not_eq_false', reduceCtorEq] at *; simp only [*, reduceCtorEq, Bool.true_eq_false, Bool.false_eq_true] at *; done)
            | (refine (fun hq : decV fs ms o.kind W nm = rest => ?_) ?_
               rotate_left
               · (rw [hr]; clear hrW hr hst hd hmq hpt ep hnin g1 g2 hW hrl hfs hl ef hk hjm ej hm hx h1 h0 hsm hb; simp only [cond_false, cond_true, Bool.not_eq_true', Bool.not_eq_false', reduceCtorEq] at *; simp only [condM, giveM, *, Bool.true_and, Bool.and_true, Bool.false_and, Bool.and_false, Bool.true_or, Bool.or_true, Bool.false_or, Bool.or_false, Bool.not_true, Bool.not_false, cond_true, cond_false]; done)
               repeat refine And.intro rfl ?_
               refine ⟨_, _, _, ⟨q + 1, rfl, hlq, by rw [hq, hd], rfl, rfl⟩, by omega, rfl, rfl, ?_, ?_, ?_⟩
               all_goals (repeat' first | exact rfl | exact trivial | exact nd (wrap_succ hlq hsq) | refine And.intro ?_ ?_))
            | (refine (fun hq : decV fs ms o.kind W nm = ms[q].put => ?_) ?_
               rotate_left
               · (rw [hr]; clear hrW hr hst hd hmq hpt ep hnin g1 g2 hW hrl hfs hl ef hk hjm ej hm hx h1 h0 hsm hb; simp only [cond_false, cond_true, Bool.not_eq_true', Bool.not_eq_false', reduceCtorEq] at *; simp only [condM, giveM, *, Bool.true_and, Bool.and_true, Bool.false_and, Bool.and_false, Bool.true_or, Bool.or_true, Bool.false_or, Bool.or_false, Bool.not_true, Bool.not_false, cond_true, cond_false]; done)
               repeat refine And.intro rfl ?_
               refine ⟨_, _, _, ⟨i + 1, W.set (idx (·.name == nm) fs).toNat ms[q].put, rfl, hlt, by rw [hst]; unfold mendStep; rw [hq], rfl, rfl⟩, by omega, rfl, rfl, ?_, ?_, ?_⟩
               all_goals (repeat' first | exact rfl | exact trivial | exact nd (wrap_succ hlt hs) | exact rowset hpt | refine And.intro ?_ ?_))
            | (refine (fun hq : decV fs ms o.kind W nm = valAt fs W ms[q].from_ => ?_) ?_
               rotate_left
               · (rw [hr]; clear hrW hr hst hd hmq hpt ep hnin g1 g2 hW hrl hfs hl ef hk hjm ej hm hx h1 h0 hsm hb; simp only [cond_false, cond_true, Bool.not_eq_true', Bool.not_eq_false', reduceCtorEq] at *; simp only [condM, giveM, *, Bool.true_and, Bool.and_true, Bool.false_and, Bool.and_false, Bool.true_or, Bool.or_true, Bool.false_or, Bool.or_false, Bool.not_true, Bool.not_false, cond_true, cond_false]; done)
               repeat refine And.intro rfl ?_
               refine ⟨_, _, _, ⟨i + 1, W.set (idx (·.name == nm) fs).toNat (valAt fs W ms[q].from_), rfl, hlt, by rw [hst]; unfold mendStep; rw [hq], rfl, rfl⟩, by omega, rfl, rfl, ?_, ?_, ?_⟩
               all_goals (repeat' first | exact rfl | exact trivial | exact nd (wrap_succ hlt hs) | exact rowset hpt | refine And.intro ?_ ?_))
        · have hq : decV fs ms o.kind W nm = valAt fs W nm := by rw [hr, decE_end (ge_map g2)]
          have hW2 : mendStep fs ms o.kind W nm = W := by
            unfold mendStep
            refine set_self hpt ?_
            rw [hq, valAt_eq ep (by omega)]
            congr 1
            rw [ep]; rfl
          repeat refine And.intro rfl ?_
          refine ⟨_, _, _, ⟨i + 1, W, rfl, hlt, by rw [hst, hW2], rfl, rfl⟩, by omega, rfl, rfl, ?_, ?_, ?_⟩
          all_goals (repeat' first | exact rfl | exact trivial | exact nd (wrap_succ hlt hs) | refine And.intro ?_ ?_)
      · rw [List.take_of_length_le (ge_map g1)] at hr
        rw [← hr]
        repeat refine And.intro rfl ?_
        exact rfl
  · simp only [Bool.not_eq_true'] at h0
    rw [mendedF_no h0]
    repeat refine And.intro rfl ?_
    cases mendsOk xs ms <;> exact rfl
theorem i_GateMended (xs : List GateShape) (ms : List GateMend) (o : GateObject) : Spec P 168 [.d (lGateShape xs), .d (lGateMend ms), st o.e] (st (bif mendsOk xs ms then mendedF xs ms o else o).e) := by
  by_cases h : 0 < o.values.length
  · exact i_GateMended1 xs ms o h
  · have hv : o.values = [] := List.eq_nil_of_length_eq_zero (by omega)
    have : (bif mendsOk xs ms then mendedF xs ms o else o) = o := by
      rw [mendedF_nil hv]; cases mendsOk xs ms <;> rfl
    rw [this]
    exact i_GateMended0 xs ms o hv
def shapedF (xs : List GateShape) (ms : List GateMend) (o : GateObject) : GateObject := mendedF xs ms (filled xs o)
theorem i_GateShaped (xs : List GateShape) (ms : List GateMend) (o : GateObject) : Spec P 126 [.d (lGateShape xs), .d (lGateMend ms), st o.e] (st (bif mendsOk xs ms then shapedF xs ms o else o).e) := by
  refine Spec.of_vc vcT vcM [.cell 6 145] Tryz.func126 rfl rfl rfl rfl (fun hok => ?_)
  repeat refine And.intro rfl ?_
  refine Or.inl (Exists.intro _ (And.intro (i_GateMendsOk _ _) ?_))
  repeat refine And.intro rfl ?_
  refine And.intro (fun h => ?_) (fun h => ?_)
  · simp only [Bool.not_eq_true'] at h
    rw [h, cond_false]
    repeat refine And.intro rfl ?_
    refine Or.inl (Exists.intro _ (And.intro (i_twin _) ?_))
    repeat refine And.intro rfl ?_
    exact rfl
  · simp only [Bool.not_eq_false'] at h
    obtain ⟨hx, _⟩ := mends_split h
    repeat refine And.intro rfl ?_
    refine Or.inl (Exists.intro _ (And.intro (i_GateFill _ _) ?_))
    repeat refine And.intro rfl ?_
    refine Or.inl (Exists.intro _ (And.intro (i_GateMended _ _ _) ?_))
    rw [h, hx]
    repeat refine And.intro rfl ?_
    exact rfl
end Go.Vc
end

section
namespace Go.Vc
open Go.Proofs
set_option maxRecDepth 100000
set_option pp.maxSteps 400
set_option pp.deepTerms false
set_option linter.unusedSimpArgs false
set_option linter.unusedVariables false
/-- the links that are set: their places and fields -/
def linksF : List GateField → List Bs → Nat → List (Nat × GateField)
  | f :: fs, v :: vs, i => bif f.kind == 4 && !(v == []) then (i, f) :: linksF fs vs (i + 1) else linksF fs vs (i + 1)
  | _, _, _ => []
def linkRow (p : Nat × GateField) : List AV → Prop := thinL [.d (.int .i64 p.1), st p.2.e]
def linksOf (xs : List GateShape) (o : GateObject) : List (Nat × GateField) := linksF (fieldsF xs o.kind o.values.length).1 o.values 0
theorem linksF_nil {fs : List GateField} {vs : List Bs} {i : Nat} (h : fs = []) : linksF fs vs i = [] := by subst h; rfl
theorem linksF_step {fs : List GateField} {vs : List Bs} {i : Nat} (h : i < fs.length) (h2 : i < vs.length) : linksF (fs.drop i) (vs.drop i) i = bif fs[i].kind == 4 && !(vs[i] == []) then (i, fs[i]) :: linksF (fs.drop (i + 1)) (vs.drop (i + 1)) (i + 1) else linksF (fs.drop (i + 1)) (vs.drop (i + 1)) (i + 1) := by
  rw [List.drop_eq_getElem_cons h, List.drop_eq_getElem_cons h2]; rfl
theorem ok_objAt {o : GateObject} (h : AV.ok (.at_ o.e)) : o.values.length ≤ big ∧ o.holds.length ≤ big := by
  simp only [AV.ok, GateObject.e, okRow, D.ok] at h
  exact ⟨len_map h.2.2.2.1.1, len_map h.2.2.2.2.2.1.1⟩
theorem i_links (l : GateLaw) (o : GateObject) : Spec P 127 [st l.e, st o.e] (.fn 170 [.at_ l.e, .at_ o.e]) := by
  refine Spec.of_vc vcT vcM [.tmp 4] Tryz.func127 rfl rfl rfl rfl (fun hok => ?_)
  repeat refine And.intro rfl ?_
  exact rfl
set_option maxHeartbeats 1000000 in
theorem i_linksI (l : GateLaw) (o : GateObject) (hc : Heap) : (specs P).iter 170 [.at_ l.e, .at_ o.e] hc ((linksOf l.shapes o).map linkRow) := by
  refine iter_of_vc vcT vcM Tryz.func170 rfl rfl rfl rfl rfl (fun y hok => ?_)
  have hfs : (fieldsF l.shapes o.kind o.values.length).2 = false → (fieldsF l.shapes o.kind o.values.length).1 = [] := by
    rcases fieldsF_spec (xs := l.shapes) (k := o.kind) (n := o.values.length) with ⟨h1, h2⟩ | ⟨j, hj, _, h, _⟩
    · exact fun _ => h2
    · rw [h]; exact fun h => by cases h
  obtain ⟨hl, hl2⟩ := fieldsF_len (xs := l.shapes) (k := o.kind) (n := o.values.length)
  repeat refine And.intro rfl ?_
  refine Or.inl (Exists.intro _ (And.intro (i_fieldsOf _ _) ?_))
  unfold linksOf
  repeat refine And.intro rfl ?_
  refine And.intro (fun h0 => ?_) (fun h0 => ?_)
  · simp only [Bool.not_eq_true'] at h0
    rw [hfs h0]
    repeat refine And.intro rfl ?_
    exact .inr rfl
  · simp only [Bool.not_eq_false'] at h0
    have hl := hl2 h0
    generalize (fieldsF l.shapes o.kind o.values.length).1 = fs at *
    repeat refine And.intro rfl ?_
    refine ⟨fun m j l' h => ∃ (i : Nat) (pre : List (Nat × GateField)), m = fs.length - i ∧ i ≤ fs.length ∧ linksF fs o.values 0 = pre ++ linksF (fs.drop i) (o.values.drop i) i ∧ j = pre.length ∧ l' = [(0, .val (.func (.yield y) #[] #[])), (1, .at_ l.e), (2, .at_ o.e), (17, .d (lGateField fs)), (18, .d (.int .i64 (fs.map GateField.e).length)), (19, .d (.int .i64 i))] ∧ h = hp0,
      ⟨0, _, _, _, rfl, ⟨0, [], rfl, Nat.zero_le _, rfl, rfl, rfl, rfl⟩, rfl, rfl, ⟨rfl, rfl, rfl, rfl, rfl, rfl, trivial⟩, trivial, trivial⟩, ?_⟩
    rintro m j l' hh ⟨i, pre, rfl, hi, hr, rfl, rfl, rfl⟩
    have hb := ok_objAt hok.2.1
    have hs : fs.length ≤ big := by omega
    repeat refine And.intro rfl ?_
    refine And.intro (fun g1 => ?_) (fun g1 => ?_)
    · have hlt : i < fs.length := lt_map g1
      have hlt2 : i < o.values.length := by omega
      rw [linksF_step hlt hlt2] at hr
      repeat refine And.intro rfl ?_
      refine ix_at (e := GateField.e) (xs := fs) (hlt) rfl ?_
      repeat refine And.intro rfl ?_
      repeat refine And.intro rfl ?_
      refine And.intro (fun h1 => ?_) (fun h1 => ?_)
      · repeat refine And.intro rfl ?_
        refine ix_at (e := eB) (xs := o.values) (hlt2) rfl ?_
        repeat refine And.intro rfl ?_
        repeat refine And.intro rfl ?_
        refine And.intro (fun h2 => ?_) (fun h2 => ?_)
        · have hc : (fs[i].kind == 4 && !(o.values[i] == [])) = true := by rw [h1, h2]; rfl
          rw [hc, cond_true] at hr
          repeat refine And.intro rfl ?_
          refine ⟨⟨linkRow (i, fs[i]), ?_, fun x h => h⟩, ?_, ?_⟩
          · rw [hr, List.getElem?_map, List.getElem?_append_right (Nat.le_refl _), Nat.sub_self]; rfl
          · repeat refine And.intro rfl ?_
            refine ⟨_, _, _, _, rfl, ⟨i + 1, pre++[(i,fs[i])], rfl, hlt, (by rw [hr,List.append_assoc];rfl), (by simp), rfl, rfl⟩, by omega, rfl, rfl, ⟨rfl, rfl, rfl, rfl, rfl, nd (wrap_succ hlt hs), trivial⟩, trivial, trivial⟩
          · repeat refine And.intro rfl ?_
            exact .inl rfl
        · have hc : (fs[i].kind == 4 && !(o.values[i] == [])) = false := by rw [h1, h2]; rfl
          rw [hc, cond_false] at hr
          repeat refine And.intro rfl ?_
          refine ⟨_, _, _, _, rfl, ⟨i + 1, pre, rfl, hlt, hr, rfl, rfl, rfl⟩, by omega, rfl, rfl, ⟨rfl, rfl, rfl, rfl, rfl, nd (wrap_succ hlt hs), trivial⟩, trivial, trivial⟩
      · have hc : (fs[i].kind == 4 && !(o.values[i] == [])) = false := by rw [h1]; rfl
        rw [hc, cond_false] at hr
        repeat refine And.intro rfl ?_
        refine ⟨_, _, _, _, rfl, ⟨i + 1, pre, rfl, hlt, hr, rfl, rfl, rfl⟩, by omega, rfl, rfl, ⟨rfl, rfl, rfl, rfl, rfl, nd (wrap_succ hlt hs), trivial⟩, trivial, trivial⟩
    · have hi' := ge_map g1
      rw [List.drop_of_length_le hi', linksF_nil rfl, List.append_nil] at hr
      repeat refine And.intro rfl ?_
      refine .inr ?_
      rw [List.length_map, hr]
end Go.Vc
end

section
namespace Go.Vc
open Go.Proofs
set_option maxRecDepth 100000
set_option pp.maxSteps 400
set_option pp.deepTerms false
set_option linter.unusedSimpArgs false
set_option linter.unusedVariables false
/-! ### chains -/
def chainK {α : Type} (r : Option α → α → Bool) : Option α → List α → Bool
  | _, [] => true
  | p, x :: xs => r p x && chainK r (some x) xs
def prevO {α : Type} (xs : List α) : Nat → Option α
  | 0 => none
  | j + 1 => xs[j]?
section
variable {α : Type} {r : Option α → α → Bool} {xs : List α} {i : Nat}
theorem chain_step (h : i < xs.length) : chainK r (prevO xs i) (xs.drop i) = (r (prevO xs i) xs[i] && chainK r (prevO xs (i + 1)) (xs.drop (i + 1))) := by
  rw [List.drop_eq_getElem_cons h]
  simp only [chainK, prevO, List.getElem?_eq_getElem h]
theorem chain_end {p : Option α} (h : xs.length ≤ i) : chainK r p (xs.drop i) = true := by
  rw [List.drop_of_length_le h]; rfl
theorem prevO_some (h0 : 0 < i) (h : i < xs.length) : prevO xs i = some (xs[i - 1]'(by omega)) := by
  obtain ⟨j, rfl⟩ : ∃ j, i = j + 1 := ⟨i - 1, by omega⟩
  simp only [prevO, Nat.add_sub_cancel]
  exact List.getElem?_eq_getElem _
theorem prevO_none (h : i = 0) : prevO xs i = none := by
  subst h
  rfl
end
theorem ltTwo_not (a b c d : Bs) : (!(Op.bytesLess a c || a == c) || (a == c && !Op.bytesLess b d)) = !ltTwo a b c d := by
  unfold ltTwo
  cases e : (a == c) with
  | true => rw [beq_iff_eq.1 e, bl_irr]; simp
  | false => simp
theorem inR_below {n a b : Int} (h : decide (n < a) = true) : inR n a b = false := by
  have := of_decide_eq_true h
  unfold inR; rw [decide_eq_false (by omega)]; rfl
theorem inR_above {n a b : Int} (h : decide (n > b) = true) : inR n a b = false := by
  have := of_decide_eq_true h
  unfold inR; rw [decide_eq_false (p := n ≤ b) (by omega), Bool.and_false]
theorem inR_within {n a b : Int} (h : decide (n < a) = false) (h2 : decide (n > b) = false) : inR n a b = true := by
  have := of_decide_eq_false h
  have := of_decide_eq_false h2
  unfold inR; rw [decide_eq_true (by omega), decide_eq_true (by omega)]; rfl
def vAt (vs : List Bs) (i : Nat) : Bs := match vs[i]? with | some v => v | none => []
theorem vAt_eq {vs : List Bs} {i : Nat} (h : i < vs.length) : vAt vs i = vs[i] := by unfold vAt; rw [List.getElem?_eq_getElem h]
theorem linksF_mem : ∀ {fs : List GateField} {vs : List Bs} {i : Nat} {p : Nat × GateField}, p ∈ linksF fs vs i → i ≤ p.1 ∧ p.1 < i + vs.length ∧ p.2 ∈ fs ∧ (p.2.kind == 4) = true
  | [], vs, i, p, h => by simp [linksF] at h
  | f :: fs, [], i, p, h => by simp [linksF] at h
  | f :: fs, v :: vs, i, p, h => by
    have tail : p ∈ linksF fs vs (i + 1) → i ≤ p.1 ∧ p.1 < i + (v :: vs).length ∧ p.2 ∈ f :: fs ∧ (p.2.kind == 4) = true := fun h => by
      obtain ⟨h1, h2, h3, h4⟩ := linksF_mem h
      exact ⟨by omega, by simp only [List.length_cons]; omega, List.mem_cons_of_mem _ h3, h4⟩
    simp only [linksF] at h
    cases hc : f.kind == 4 && !(v == []) with
    | false => rw [hc] at h; exact tail h
    | true =>
      rw [hc, cond_true] at h
      rcases List.mem_cons.1 h with e | h
      · subst e
        rw [Bool.and_eq_true] at hc
        exact ⟨Nat.le_refl _, by simp, List.mem_cons_self, hc.1⟩
      · exact tail h
theorem linksOf_lt {xs : List GateShape} {o : GateObject} {p : Nat × GateField} (h : p ∈ linksOf xs o) : p.1 < o.values.length := by
  have := (linksF_mem h).2.1
  omega
theorem linkRow_inv {p : Nat × GateField} {x : List AV} (h : linkRow p x) : ∃ A c, x = [.d (.int .i64 p.1), .agg [.d (.str p.2.name), .d (.int .i64 p.2.kind), .d (.int .i64 p.2.least), .d (.int .i64 p.2.most), .d (.raw (.slice A (p.2.words.map eB).length c)), .d (.str p.2.to_), .d (.int .i64 p.2.role), .d (.bool p.2.must), .d (.bool p.2.fixed), .d (.str p.2.default_), .d (.str p.2.weighs)]] := by
  unfold linkRow st GateField.e at h
  simp only [thinL, thinC, List.map] at h
  obtain ⟨y0, ys, rfl, ⟨y1, rfl, rfl⟩, cs, y2, rfl, ⟨z1, rfl, z2, rfl, z3, rfl, z4, rfl, A, c, z5, rfl, z6, rfl, z7, rfl, z8, rfl, z9, rfl, z10, rfl, z11, rfl, rfl⟩, rfl⟩ := h
  exact ⟨A, c, rfl⟩
theorem link_rows {xs : List (Nat × GateField)} {k : Nat} {X : List AV → Prop} (h : (xs.map linkRow)[k]? = some X) : ∃ p, xs[k]? = some p ∧ p ∈ xs ∧ X = linkRow p := by
  rw [List.getElem?_map] at h
  cases hp : xs[k]? with
  | none => rw [hp] at h; cases h
  | some p => rw [hp] at h; cases h; exact ⟨p, rfl, List.mem_of_getElem? hp, rfl⟩
/-! ### the objects of a book -/
def findF (b : GateBook) (k n : Bs) : Bool := decide (idx (fun x => x.kind == k && x.name == n) b.objects ≥ 0)
theorem findF_no {b : GateBook} {k n : Bs} (h : decide (idx (fun x : GateObject => x.kind == k && x.name == n) b.objects < 0) = true) : findF b k n = false := by
  have := of_decide_eq_true h
  exact decide_eq_false (by omega)
theorem findF_yes {b : GateBook} {k n : Bs} (h : decide (idx (fun x : GateObject => x.kind == k && x.name == n) b.objects < 0) = false) : findF b k n = true := by
  have := of_decide_eq_false h
  exact decide_eq_true (by omega)
theorem all_no {α : Type} {p : α → Bool} {xs : List α} {x : α} (h : x ∈ xs) (hp : p x = false) : xs.all p = false := by
  rw [List.all_eq_false]
  exact ⟨x, h, by rw [hp]; simp⟩
def restF' (L : GateLaw) (b : GateBook) (o : GateObject) : Bool :=
  (l2F L.shapes o).1 == 0 && (L.teams.any (·.name == o.team) && (inR o.version 1 b.now && ((shapedF L.shapes L.mends o).values == o.values && (linksOf L.shapes o).all (fun p => findF b p.2.to_ (vAt o.values p.1)))))
def objF (L : GateLaw) (b : GateBook) (p : Option GateObject) (o : GateObject) : Bool := (match p with | some q => ltTwo q.kind q.name o.kind o.name | none => true) && restF' L b o
def objsF (L : GateLaw) (b : GateBook) : Bool := !decide ((b.objects.length : Int) > 40) && chainK (objF L b) none b.objects
set_option maxHeartbeats 2000000 in
theorem i_objectsOk (L : GateLaw) (b : GateBook) (hm : mendsOk L.shapes L.mends = true) : Spec P 77 [st b.e, st L.e] (.d (.bool (objsF L b))) := by
  refine Spec.of_vc vcT vcM [.cell 4 4] Tryz.func77 rfl rfl rfl rfl (fun hok => ?_)
  have hs := (ok_book (okAs_head hok)).1
  obtain ⟨hx, hmm, hm12, hro⟩ := mends_split hm
  repeat refine And.intro rfl ?_
  refine And.intro (fun h0 => ?_) (fun h0 => ?_)
  · repeat refine And.intro rfl ?_
    refine bd ?_
    rw [List.length_map] at h0
    rw [objsF, h0]; rfl
  rw [List.length_map] at h0
  have hob : objsF L b = chainK (objF L b) none b.objects := by rw [objsF, h0]; rfl
  rw [hob]
  repeat refine And.intro rfl ?_
  refine ⟨fun m l h => ∃ (i : Nat) , m = b.objects.length - i ∧ i ≤ b.objects.length ∧ (chainK (objF L b) none b.objects = chainK (objF L b) (prevO b.objects i) (b.objects.drop i)) ∧ l = [(2, .ptr 0 0), (3, .ptr 1 0), (4, .ptr 2 0), (17, .d (lGateObject b.objects)), (18, .d (.int .i64 (b.objects.map GateObject.e).length)), (19, .d (.int .i64 i))] ∧ h = ⟨[(2, .cells 4 [.d (.bool false)]), (1, .cells 43 (L.e.map .d)), (0, .cells 50 (b.e.map .d))], 3, 0⟩,
    ⟨_, _, _, ⟨0, rfl, Nat.zero_le _, rfl, rfl, rfl⟩, rfl, rfl, ⟨rfl, rfl, rfl, rfl, rfl, rfl, trivial⟩, (by repeat' first|exact rfl|exact trivial|refine And.intro ?_ ?_), (by repeat' first|exact rfl|exact trivial|refine And.intro ?_ ?_)⟩, ?_⟩
  rintro m l hh ⟨i, rfl, hi, hr, rfl, rfl⟩
  repeat refine And.intro rfl ?_
  refine And.intro (fun h1 => ?_) (fun h1 => ?_)
  · have hlt : i < b.objects.length := lt_map h1
    rw [chain_step hlt] at hr
    repeat refine And.intro rfl ?_
    refine ix_at (e := GateObject.e) (xs := b.objects) (hlt) rfl ?_
    repeat refine And.intro rfl ?_
    repeat refine And.intro rfl ?_
    refine And.intro (fun h2 => ?_) (fun h2 => ?_)
    · have h3 := gt0 h2
      repeat refine And.intro rfl ?_
      refine ix_atw (e := GateObject.e) (xs := b.objects) ((show i - 1 < b.objects.length by omega)) (wrap_pred h3 hlt hs) rfl ?_
      repeat refine And.intro rfl ?_
      have hpv : prevO b.objects i = some (b.objects[i - 1]'(by omega)) := prevO_some h3 hlt
      rw [hpv] at hr
      generalize hq : b.objects[i - 1]'(by omega) = q at *
      have hno : ∀ c, (!(Op.bytesLess q.kind b.objects[i].kind || q.kind == b.objects[i].kind) || (q.kind == b.objects[i].kind && !Op.bytesLess q.name b.objects[i].name)) = c → objF L b (some q) b.objects[i] = (!c && restF' L b b.objects[i]) := fun c h => by
        rw [ltTwo_not] at h
        rw [← h, Bool.not_not]; rfl
      repeat refine And.intro rfl ?_
      refine And.intro (fun a1 => ?_) (fun a1 => ?_)
      · repeat refine And.intro rfl ?_
        refine And.intro (fun a2 => ?_) (fun a2 => ?_)
        · repeat refine And.intro rfl ?_
          refine And.intro (fun a3 => ?_) (fun a3 => ?_)
          · repeat refine And.intro rfl ?_
            refine bd ?_
            rw [hr, hno true (by rw [a1, a2]; exact a3)]; rfl
          · rw [hno false (by rw [a1, a2]; exact a3), Bool.not_false, Bool.true_and] at hr
            repeat refine And.intro rfl ?_
            refine Or.inl (Exists.intro _ (And.intro (i_GateCheck _ _) ?_))
            rw [show checkF L.shapes b.objects[i] = l2F L.shapes b.objects[i] from by unfold checkF; rw [hx]; rfl]
            generalize ho : b.objects[i] = o at *
            repeat refine And.intro rfl ?_
            refine And.intro (fun c1 => ?_) (fun c1 => ?_)
            · have c1 := nbt c1
              repeat refine And.intro rfl ?_
              refine bd ?_
              rw [hr, show restF' L b o = false from by simp only [restF', c1, Bool.true_and, Bool.false_and, Bool.and_false, Bool.and_true]]
              rfl
            · have c1 := nbf c1
              repeat refine And.intro rfl ?_
              refine And.intro (by kernel_rfl) ?_
              repeat refine And.intro rfl ?_
              repeat refine And.intro rfl ?_
              refine Or.inl (Exists.intro _ (And.intro (i_teamOf _ _) ?_))
              repeat refine And.intro rfl ?_
              refine And.intro (fun c2 => ?_) (fun c2 => ?_)
              · have c2 := nbf (idx_lt.symm.trans c2)
                repeat refine And.intro rfl ?_
                refine And.intro (fun c3 => ?_) (fun c3 => ?_)
                · repeat refine And.intro rfl ?_
                  refine And.intro (fun c4 => ?_) (fun c4 => ?_)
                  · have c4' := inR_within c3 c4
                    repeat refine And.intro rfl ?_
                    refine Or.inl (Exists.intro _ (And.intro (i_GateShaped _ _ _) ?_))
                    rw [hm, cond_true]
                    repeat refine And.intro rfl ?_
                    refine Or.inl (Exists.intro _ (And.intro (i_equalTexts _ _) ?_))
                    repeat refine And.intro rfl ?_
                    refine And.intro (fun c5 => ?_) (fun c5 => ?_)
                    · have c5 : ((shapedF L.shapes L.mends o).values == o.values) = false := nbt c5
                      repeat refine And.intro rfl ?_
                      refine bd ?_
                      rw [hr, show restF' L b o = false from by simp only [restF', c1,c2,c4',c5, Bool.true_and, Bool.false_and, Bool.and_false, Bool.and_true]]
                      rfl
                    · have c5 : ((shapedF L.shapes L.mends o).values == o.values) = true := nbf c5
                      have hrest : restF' L b o = (linksOf L.shapes o).all (fun p => findF b p.2.to_ (vAt o.values p.1)) := by simp only [restF', c1, c2, c4', c5, Bool.true_and]
                      rw [hrest] at hr
                      repeat refine And.intro rfl ?_
                      refine Or.inl (Exists.intro _ (And.intro (i_links _ _) ?_))
                      repeat refine And.intro rfl ?_
                      refine ⟨(linksOf L.shapes o).map linkRow, fun k => ∀ p, (linksOf L.shapes o)[k]? = some p → findF b p.2.to_ (vAt o.values p.1) = true, i_linksI L o _, ?_, ?_, ?_⟩
                      · intro X hX x hx
                        obtain ⟨p, _, rfl⟩ := List.mem_map.1 hX
                        obtain ⟨A, c, rfl⟩ := linkRow_inv hx
                        rfl
                      · intro k X hX x hx
                        obtain ⟨p, hp, hpm, rfl⟩ := link_rows hX
                        obtain ⟨A, c, rfl⟩ := linkRow_inv hx
                        have hpl := linksOf_lt hpm
                        repeat refine And.intro rfl ?_
                        refine ⟨[(2, .ptr 0 0), (4, .ptr 2 0), (6, .ptr 3 0), (10, .d (.int .i64 p.1)), (11, .at_ [.str p.2.name, .int .i64 p.2.kind, .int .i64 p.2.least, .int .i64 p.2.most, .raw (.slice A (p.2.words.map eB).length c), .str p.2.to_, .int .i64 p.2.role, .bool p.2.must, .bool p.2.fixed, .str p.2.default_, .str p.2.weighs])], ⟨rfl, rfl, ⟨rfl, rfl, rfl, rfl, .inr ⟨_, _, _, _, rfl, Nat.le_of_ble_eq_true rfl, rfl, rfl, rfl⟩, trivial⟩, ?_, ?_⟩, ?_⟩
                        · repeat' first | exact rfl | exact trivial | refine And.intro ?_ ?_
                        · repeat' first | exact rfl | exact trivial | refine And.intro ?_ ?_
                        repeat refine And.intro rfl ?_
                        refine And.intro (by kernel_rfl) ?_
                        repeat refine And.intro rfl ?_
                        repeat refine And.intro rfl ?_
                        refine ix_at (e := eB) (xs := o.values) (hpl) rfl ?_
                        repeat refine And.intro rfl ?_
                        repeat refine And.intro rfl ?_
                        refine Or.inl (Exists.intro _ (And.intro (i_find _ _ _) ?_))
                        repeat refine And.intro rfl ?_
                        refine And.intro (fun d1 => ?_) (fun d1 => ?_)
                        · repeat refine And.intro rfl ?_
                          refine bd ?_
                          rw [hr, all_no hpm (by rw [vAt_eq hpl]; exact findF_no d1)]; rfl
                        · repeat refine And.intro rfl ?_
                          refine ⟨fun p' hp' => ?_, rfl, rfl, trivial, ?_, ?_⟩
                          · rw [hp] at hp'
                            cases hp'
                            rw [vAt_eq hpl]; exact findF_yes d1
                          · repeat' first | exact rfl | exact trivial | refine And.intro ?_ ?_
                          · repeat' first | exact rfl | exact trivial | refine And.intro ?_ ?_
                      · intro hall
                        have hal : (linksOf L.shapes o).all (fun p => findF b p.2.to_ (vAt o.values p.1)) = true := by
                          rw [List.all_eq_true]
                          intro p hp
                          obtain ⟨k, hk, rfl⟩ := List.getElem_of_mem hp
                          exact hall k (by rw [List.length_map]; exact hk) _ (List.getElem?_eq_getElem hk)
                        rw [hal, Bool.true_and] at hr
                        repeat refine And.intro rfl ?_
                        exact ⟨_, _, _, ⟨i + 1, rfl, hlt, hr, rfl, rfl⟩, by omega, rfl, rfl, ⟨rfl, rfl, rfl, rfl, rfl, nd (wrap_succ hlt hs), trivial⟩, (by repeat' first|exact rfl|exact trivial|refine And.intro ?_ ?_), (by repeat' first|exact rfl|exact trivial|refine And.intro ?_ ?_)⟩
                  · have c4' := inR_above (a := 1) c4
                    repeat refine And.intro rfl ?_
                    refine And.intro (fun _ => ?_) (fun h => absurd h (by simp))
                    repeat refine And.intro rfl ?_
                    refine bd ?_
                    rw [hr, show restF' L b o = false from by simp only [restF', c1,c2,c4', Bool.true_and, Bool.false_and, Bool.and_false, Bool.and_true]]
                    rfl
                · have c3' := inR_below (b := b.now) c3
                  repeat refine And.intro rfl ?_
                  refine And.intro (fun h => absurd h (by simp)) (fun _ => ?_)
                  repeat refine And.intro rfl ?_
                  refine And.intro (fun _ => ?_) (fun h => absurd h (by simp))
                  repeat refine And.intro rfl ?_
                  refine bd ?_
                  rw [hr, show restF' L b o = false from by simp only [restF', c1,c2,c3', Bool.true_and, Bool.false_and, Bool.and_false, Bool.and_true]]
                  rfl
              · have c2 := nbt (idx_lt.symm.trans c2)
                repeat refine And.intro rfl ?_
                refine And.intro (fun h => absurd h (by simp)) (fun _ => ?_)
                repeat refine And.intro rfl ?_
                refine And.intro (fun h => absurd h (by simp)) (fun _ => ?_)
                repeat refine And.intro rfl ?_
                refine And.intro (fun _ => ?_) (fun h => absurd h (by simp))
                repeat refine And.intro rfl ?_
                refine bd ?_
                rw [hr, show restF' L b o = false from by simp only [restF', c1,c2, Bool.true_and, Bool.false_and, Bool.and_false, Bool.and_true]]
                rfl
        · rw [hno false (by rw [a1, a2]; rfl), Bool.not_false, Bool.true_and] at hr
          repeat refine And.intro rfl ?_
          refine Or.inl (Exists.intro _ (And.intro (i_GateCheck _ _) ?_))
          rw [show checkF L.shapes b.objects[i] = l2F L.shapes b.objects[i] from by unfold checkF; rw [hx]; rfl]
          generalize ho : b.objects[i] = o at *
          repeat refine And.intro rfl ?_
          refine And.intro (fun c1 => ?_) (fun c1 => ?_)
          · have c1 := nbt c1
            repeat refine And.intro rfl ?_
            refine bd ?_
            rw [hr, show restF' L b o = false from by simp only [restF', c1, Bool.true_and, Bool.false_and, Bool.and_false, Bool.and_true]]
            rfl
          · have c1 := nbf c1
            repeat refine And.intro rfl ?_
            refine And.intro (by kernel_rfl) ?_
            repeat refine And.intro rfl ?_
            repeat refine And.intro rfl ?_
            refine Or.inl (Exists.intro _ (And.intro (i_teamOf _ _) ?_))
            repeat refine And.intro rfl ?_
            refine And.intro (fun c2 => ?_) (fun c2 => ?_)
            · have c2 := nbf (idx_lt.symm.trans c2)
              repeat refine And.intro rfl ?_
              refine And.intro (fun c3 => ?_) (fun c3 => ?_)
              · repeat refine And.intro rfl ?_
                refine And.intro (fun c4 => ?_) (fun c4 => ?_)
                · have c4' := inR_within c3 c4
                  repeat refine And.intro rfl ?_
                  refine Or.inl (Exists.intro _ (And.intro (i_GateShaped _ _ _) ?_))
                  rw [hm, cond_true]
                  repeat refine And.intro rfl ?_
                  refine Or.inl (Exists.intro _ (And.intro (i_equalTexts _ _) ?_))
                  repeat refine And.intro rfl ?_
                  refine And.intro (fun c5 => ?_) (fun c5 => ?_)
                  · have c5 : ((shapedF L.shapes L.mends o).values == o.values) = false := nbt c5
                    repeat refine And.intro rfl ?_
                    refine bd ?_
                    rw [hr, show restF' L b o = false from by simp only [restF', c1,c2,c4',c5, Bool.true_and, Bool.false_and, Bool.and_false, Bool.and_true]]
                    rfl
                  · have c5 : ((shapedF L.shapes L.mends o).values == o.values) = true := nbf c5
                    have hrest : restF' L b o = (linksOf L.shapes o).all (fun p => findF b p.2.to_ (vAt o.values p.1)) := by simp only [restF', c1, c2, c4', c5, Bool.true_and]
                    rw [hrest] at hr
                    repeat refine And.intro rfl ?_
                    refine Or.inl (Exists.intro _ (And.intro (i_links _ _) ?_))
                    repeat refine And.intro rfl ?_
                    refine ⟨(linksOf L.shapes o).map linkRow, fun k => ∀ p, (linksOf L.shapes o)[k]? = some p → findF b p.2.to_ (vAt o.values p.1) = true, i_linksI L o _, ?_, ?_, ?_⟩
                    · intro X hX x hx
                      obtain ⟨p, _, rfl⟩ := List.mem_map.1 hX
                      obtain ⟨A, c, rfl⟩ := linkRow_inv hx
                      rfl
                    · intro k X hX x hx
                      obtain ⟨p, hp, hpm, rfl⟩ := link_rows hX
                      obtain ⟨A, c, rfl⟩ := linkRow_inv hx
                      have hpl := linksOf_lt hpm
                      repeat refine And.intro rfl ?_
                      refine ⟨[(2, .ptr 0 0), (4, .ptr 2 0), (6, .ptr 3 0), (10, .d (.int .i64 p.1)), (11, .at_ [.str p.2.name, .int .i64 p.2.kind, .int .i64 p.2.least, .int .i64 p.2.most, .raw (.slice A (p.2.words.map eB).length c), .str p.2.to_, .int .i64 p.2.role, .bool p.2.must, .bool p.2.fixed, .str p.2.default_, .str p.2.weighs])], ⟨rfl, rfl, ⟨rfl, rfl, rfl, rfl, .inr ⟨_, _, _, _, rfl, Nat.le_of_ble_eq_true rfl, rfl, rfl, rfl⟩, trivial⟩, ?_, ?_⟩, ?_⟩
                      · repeat' first | exact rfl | exact trivial | refine And.intro ?_ ?_
                      · repeat' first | exact rfl | exact trivial | refine And.intro ?_ ?_
                      repeat refine And.intro rfl ?_
                      refine And.intro (by kernel_rfl) ?_
                      repeat refine And.intro rfl ?_
                      repeat refine And.intro rfl ?_
                      refine ix_at (e := eB) (xs := o.values) (hpl) rfl ?_
                      repeat refine And.intro rfl ?_
                      repeat refine And.intro rfl ?_
                      refine Or.inl (Exists.intro _ (And.intro (i_find _ _ _) ?_))
                      repeat refine And.intro rfl ?_
                      refine And.intro (fun d1 => ?_) (fun d1 => ?_)
                      · repeat refine And.intro rfl ?_
                        refine bd ?_
                        rw [hr, all_no hpm (by rw [vAt_eq hpl]; exact findF_no d1)]; rfl
                      · repeat refine And.intro rfl ?_
                        refine ⟨fun p' hp' => ?_, rfl, rfl, trivial, ?_, ?_⟩
                        · rw [hp] at hp'
                          cases hp'
                          rw [vAt_eq hpl]; exact findF_yes d1
                        · repeat' first | exact rfl | exact trivial | refine And.intro ?_ ?_
                        · repeat' first | exact rfl | exact trivial | refine And.intro ?_ ?_
                    · intro hall
                      have hal : (linksOf L.shapes o).all (fun p => findF b p.2.to_ (vAt o.values p.1)) = true := by
                        rw [List.all_eq_true]
                        intro p hp
                        obtain ⟨k, hk, rfl⟩ := List.getElem_of_mem hp
                        exact hall k (by rw [List.length_map]; exact hk) _ (List.getElem?_eq_getElem hk)
                      rw [hal, Bool.true_and] at hr
                      repeat refine And.intro rfl ?_
                      exact ⟨_, _, _, ⟨i + 1, rfl, hlt, hr, rfl, rfl⟩, by omega, rfl, rfl, ⟨rfl, rfl, rfl, rfl, rfl, nd (wrap_succ hlt hs), trivial⟩, (by repeat' first|exact rfl|exact trivial|refine And.intro ?_ ?_), (by repeat' first|exact rfl|exact trivial|refine And.intro ?_ ?_)⟩
                · have c4' := inR_above (a := 1) c4
                  repeat refine And.intro rfl ?_
                  refine And.intro (fun _ => ?_) (fun h => absurd h (by simp))
                  repeat refine And.intro rfl ?_
                  refine bd ?_
                  rw [hr, show restF' L b o = false from by simp only [restF', c1,c2,c4', Bool.true_and, Bool.false_and, Bool.and_false, Bool.and_true]]
                  rfl
              · have c3' := inR_below (b := b.now) c3
                repeat refine And.intro rfl ?_
                refine And.intro (fun h => absurd h (by simp)) (fun _ => ?_)
                repeat refine And.intro rfl ?_
                refine And.intro (fun _ => ?_) (fun h => absurd h (by simp))
                repeat refine And.intro rfl ?_
                refine bd ?_
                rw [hr, show restF' L b o = false from by simp only [restF', c1,c2,c3', Bool.true_and, Bool.false_and, Bool.and_false, Bool.and_true]]
                rfl
            · have c2 := nbt (idx_lt.symm.trans c2)
              repeat refine And.intro rfl ?_
              refine And.intro (fun h => absurd h (by simp)) (fun _ => ?_)
              repeat refine And.intro rfl ?_
              refine And.intro (fun h => absurd h (by simp)) (fun _ => ?_)
              repeat refine And.intro rfl ?_
              refine And.intro (fun _ => ?_) (fun h => absurd h (by simp))
              repeat refine And.intro rfl ?_
              refine bd ?_
              rw [hr, show restF' L b o = false from by simp only [restF', c1,c2, Bool.true_and, Bool.false_and, Bool.and_false, Bool.and_true]]
              rfl
      · repeat refine And.intro rfl ?_
        refine bd ?_
        rw [hr, hno true (by rw [a1]; rfl)]; rfl
    · have hpv : prevO b.objects i = none := prevO_none (le0 h2)
      rw [hpv] at hr
      replace hr : chainK (objF L b) none b.objects = (restF' L b b.objects[i] && chainK (objF L b) (prevO b.objects (i + 1)) (b.objects.drop (i + 1))) := by rw [hr]; rfl
      repeat refine And.intro rfl ?_
      refine Or.inl (Exists.intro _ (And.intro (i_GateCheck _ _) ?_))
      rw [show checkF L.shapes b.objects[i] = l2F L.shapes b.objects[i] from by unfold checkF; rw [hx]; rfl]
      generalize ho : b.objects[i] = o at *
      repeat refine And.intro rfl ?_
      refine And.intro (fun c1 => ?_) (fun c1 => ?_)
      · have c1 := nbt c1
        repeat refine And.intro rfl ?_
        refine bd ?_
        rw [hr, show restF' L b o = false from by simp only [restF', c1, Bool.true_and, Bool.false_and, Bool.and_false, Bool.and_true]]
        rfl
      · have c1 := nbf c1
        repeat refine And.intro rfl ?_
        refine And.intro (by kernel_rfl) ?_
        repeat refine And.intro rfl ?_
        repeat refine And.intro rfl ?_
        refine Or.inl (Exists.intro _ (And.intro (i_teamOf _ _) ?_))
        repeat refine And.intro rfl ?_
        refine And.intro (fun c2 => ?_) (fun c2 => ?_)
        · have c2 := nbf (idx_lt.symm.trans c2)
          repeat refine And.intro rfl ?_
          refine And.intro (fun c3 => ?_) (fun c3 => ?_)
          · repeat refine And.intro rfl ?_
            refine And.intro (fun c4 => ?_) (fun c4 => ?_)
            · have c4' := inR_within c3 c4
              repeat refine And.intro rfl ?_
              refine Or.inl (Exists.intro _ (And.intro (i_GateShaped _ _ _) ?_))
              rw [hm, cond_true]
              repeat refine And.intro rfl ?_
              refine Or.inl (Exists.intro _ (And.intro (i_equalTexts _ _) ?_))
              repeat refine And.intro rfl ?_
              refine And.intro (fun c5 => ?_) (fun c5 => ?_)
              · have c5 : ((shapedF L.shapes L.mends o).values == o.values) = false := nbt c5
                repeat refine And.intro rfl ?_
                refine bd ?_
                rw [hr, show restF' L b o = false from by simp only [restF', c1,c2,c4',c5, Bool.true_and, Bool.false_and, Bool.and_false, Bool.and_true]]
                rfl
              · have c5 : ((shapedF L.shapes L.mends o).values == o.values) = true := nbf c5
                have hrest : restF' L b o = (linksOf L.shapes o).all (fun p => findF b p.2.to_ (vAt o.values p.1)) := by simp only [restF', c1, c2, c4', c5, Bool.true_and]
                rw [hrest] at hr
                repeat refine And.intro rfl ?_
                refine Or.inl (Exists.intro _ (And.intro (i_links _ _) ?_))
                repeat refine And.intro rfl ?_
                refine ⟨(linksOf L.shapes o).map linkRow, fun k => ∀ p, (linksOf L.shapes o)[k]? = some p → findF b p.2.to_ (vAt o.values p.1) = true, i_linksI L o _, ?_, ?_, ?_⟩
                · intro X hX x hx
                  obtain ⟨p, _, rfl⟩ := List.mem_map.1 hX
                  obtain ⟨A, c, rfl⟩ := linkRow_inv hx
                  rfl
                · intro k X hX x hx
                  obtain ⟨p, hp, hpm, rfl⟩ := link_rows hX
                  obtain ⟨A, c, rfl⟩ := linkRow_inv hx
                  have hpl := linksOf_lt hpm
                  repeat refine And.intro rfl ?_
                  refine ⟨[(2, .ptr 0 0), (4, .ptr 2 0), (6, .ptr 3 0), (10, .d (.int .i64 p.1)), (11, .at_ [.str p.2.name, .int .i64 p.2.kind, .int .i64 p.2.least, .int .i64 p.2.most, .raw (.slice A (p.2.words.map eB).length c), .str p.2.to_, .int .i64 p.2.role, .bool p.2.must, .bool p.2.fixed, .str p.2.default_, .str p.2.weighs])], ⟨rfl, rfl, ⟨rfl, rfl, rfl, rfl, .inr ⟨_, _, _, _, rfl, Nat.le_of_ble_eq_true rfl, rfl, rfl, rfl⟩, trivial⟩, ?_, ?_⟩, ?_⟩
                  · repeat' first | exact rfl | exact trivial | refine And.intro ?_ ?_
                  · repeat' first | exact rfl | exact trivial | refine And.intro ?_ ?_
                  repeat refine And.intro rfl ?_
                  refine And.intro (by kernel_rfl) ?_
                  repeat refine And.intro rfl ?_
                  repeat refine And.intro rfl ?_
                  refine ix_at (e := eB) (xs := o.values) (hpl) rfl ?_
                  repeat refine And.intro rfl ?_
                  repeat refine And.intro rfl ?_
                  refine Or.inl (Exists.intro _ (And.intro (i_find _ _ _) ?_))
                  repeat refine And.intro rfl ?_
                  refine And.intro (fun d1 => ?_) (fun d1 => ?_)
                  · repeat refine And.intro rfl ?_
                    refine bd ?_
                    rw [hr, all_no hpm (by rw [vAt_eq hpl]; exact findF_no d1)]; rfl
                  · repeat refine And.intro rfl ?_
                    refine ⟨fun p' hp' => ?_, rfl, rfl, trivial, ?_, ?_⟩
                    · rw [hp] at hp'
                      cases hp'
                      rw [vAt_eq hpl]; exact findF_yes d1
                    · repeat' first | exact rfl | exact trivial | refine And.intro ?_ ?_
                    · repeat' first | exact rfl | exact trivial | refine And.intro ?_ ?_
                · intro hall
                  have hal : (linksOf L.shapes o).all (fun p => findF b p.2.to_ (vAt o.values p.1)) = true := by
                    rw [List.all_eq_true]
                    intro p hp
                    obtain ⟨k, hk, rfl⟩ := List.getElem_of_mem hp
                    exact hall k (by rw [List.length_map]; exact hk) _ (List.getElem?_eq_getElem hk)
                  rw [hal, Bool.true_and] at hr
                  repeat refine And.intro rfl ?_
                  exact ⟨_, _, _, ⟨i + 1, rfl, hlt, hr, rfl, rfl⟩, by omega, rfl, rfl, ⟨rfl, rfl, rfl, rfl, rfl, nd (wrap_succ hlt hs), trivial⟩, (by repeat' first|exact rfl|exact trivial|refine And.intro ?_ ?_), (by repeat' first|exact rfl|exact trivial|refine And.intro ?_ ?_)⟩
            · have c4' := inR_above (a := 1) c4
              repeat refine And.intro rfl ?_
              refine And.intro (fun _ => ?_) (fun h => absurd h (by simp))
              repeat refine And.intro rfl ?_
              refine bd ?_
              rw [hr, show restF' L b o = false from by simp only [restF', c1,c2,c4', Bool.true_and, Bool.false_and, Bool.and_false, Bool.and_true]]
              rfl
          · have c3' := inR_below (b := b.now) c3
            repeat refine And.intro rfl ?_
            refine And.intro (fun h => absurd h (by simp)) (fun _ => ?_)
            repeat refine And.intro rfl ?_
            refine And.intro (fun _ => ?_) (fun h => absurd h (by simp))
            repeat refine And.intro rfl ?_
            refine bd ?_
            rw [hr, show restF' L b o = false from by simp only [restF', c1,c2,c3', Bool.true_and, Bool.false_and, Bool.and_false, Bool.and_true]]
            rfl
        · have c2 := nbt (idx_lt.symm.trans c2)
          repeat refine And.intro rfl ?_
          refine And.intro (fun h => absurd h (by simp)) (fun _ => ?_)
          repeat refine And.intro rfl ?_
          refine And.intro (fun h => absurd h (by simp)) (fun _ => ?_)
          repeat refine And.intro rfl ?_
          refine And.intro (fun _ => ?_) (fun h => absurd h (by simp))
          repeat refine And.intro rfl ?_
          refine bd ?_
          rw [hr, show restF' L b o = false from by simp only [restF', c1,c2, Bool.true_and, Bool.false_and, Bool.and_false, Bool.and_true]]
          rfl
  · repeat refine And.intro rfl ?_
    refine bd ?_
    rw [hr, chain_end (ge_map h1)]
end Go.Vc
end

section
namespace Go.Vc
open Go.Proofs
set_option maxRecDepth 100000
set_option pp.maxSteps 400
set_option pp.deepTerms false
set_option linter.unusedSimpArgs false
set_option linter.unusedVariables false
theorem s_l5SameTexts (xs ys : List Bs) : Spec P 109 [.d (lS xs), .d (lS ys)] (.d (.bool (xs == ys))) := by
  refine Spec.of_vc vcT vcM [.tmp 4] Tryz.func109 rfl rfl rfl rfl (fun hok => ?_)
  have hs : xs.length ≤ big := len_map hok.1.1
  repeat refine And.intro rfl ?_
  refine And.intro (fun h0 => ?_) (fun h0 => ?_)
  · refine bd ?_
    rw [List.length_map, List.length_map] at h0
    cases e : xs == ys with
    | false => rfl
    | true => rw [beq_iff_eq.1 e] at h0; simp at h0
  · rw [List.length_map, List.length_map] at h0
    have hl : xs.length = ys.length := by simp at h0; omega
    repeat refine And.intro rfl ?_
    refine ⟨fun m l h => ∃ (i : Nat) , m = xs.length - i ∧ i ≤ xs.length ∧ ((xs == ys) = (xs.drop i == ys.drop i)) ∧ l = [(0, .d (lS xs)), (1, .d (lS ys)), (5, .d (.int .i64 i))] ∧ h = hp0,
      ⟨_, _, _, ⟨0, rfl, Nat.zero_le _, rfl, rfl, rfl⟩, rfl, rfl, ⟨rfl, rfl, rfl, trivial⟩, trivial, trivial⟩, ?_⟩
    rintro m l hh ⟨i, rfl, hi, hr, rfl, rfl⟩
    repeat refine And.intro rfl ?_
    refine And.intro (fun h1 => ?_) (fun h1 => ?_)
    · have hlt : i < xs.length := lt_map h1
      have hlt' : i < ys.length := by omega
      rw [List.drop_eq_getElem_cons hlt, List.drop_eq_getElem_cons hlt', List.cons_beq_cons] at hr
      repeat refine And.intro rfl ?_
      refine And.intro (by kernel_rfl) ?_
      repeat refine And.intro rfl ?_
      repeat refine And.intro rfl ?_
      refine ix_at (e := eB) (xs := xs) (hlt) rfl ?_
      repeat refine And.intro rfl ?_
      repeat refine And.intro rfl ?_
      refine ix_at (e := eB) (xs := ys) (hlt') rfl ?_
      repeat refine And.intro rfl ?_
      repeat refine And.intro rfl ?_
      refine And.intro (fun h2 => ?_) (fun h2 => ?_)
      · refine bd ?_
        simp only [Bool.not_eq_true', Bool.not_eq_false'] at h2
        rw [hr, h2]; rfl
      · simp only [Bool.not_eq_true', Bool.not_eq_false'] at h2
        repeat refine And.intro rfl ?_
        exact ⟨_, _, _, ⟨i + 1, rfl, hlt, by rw [hr, h2]; rfl, rfl, rfl⟩, by omega, rfl, rfl, ⟨rfl, rfl, nd (wrap_succ hlt hs), trivial⟩, trivial, trivial⟩
    · refine bd ?_
      have hge := ge_map h1
      rw [hr, List.drop_of_length_le hge, List.drop_of_length_le (by omega)]; rfl
theorem l2F_form {xs : List GateShape} {o : GateObject} (h : ((l2F xs o).1 == 0) = true) : (fieldsF xs o.kind o.values.length).2 = true := by
  unfold l2F formF at h
  cases hf : (fieldsF xs o.kind o.values.length).2 with
  | true => rfl
  | false => rw [hf] at h; cases h
theorem ok_bobj {b : GateBook} (h : okAs [st b.e]) {o : GateObject} (ho : o ∈ b.objects) : o.values.length ≤ big ∧ o.holds.length ≤ big := by
  have := h.1
  simp only [st, AV.ok, GateBook.e, List.map, okAs] at this
  refine ok_objAt ?_
  simp only [AV.ok]
  exact okRows_iff.1 this.2.2.2.1.2 _ (List.mem_map.2 ⟨o, ho, rfl⟩)
set_option maxHeartbeats 2000000 in
theorem s_l5ObjectsOk (L : GateLaw) (b : GateBook) (hm : mendsOk L.shapes L.mends = true) : Spec P 64 [st L.e, st b.e] (.d (.bool (objsF L b))) := by
  refine Spec.of_vc vcT vcM [.tmp 4] Tryz.func64 rfl rfl rfl rfl (fun hok => ?_)
  have hs := (ok_book hok.2).1
  obtain ⟨hx, hmm, hm12, hro⟩ := mends_split hm
  repeat refine And.intro rfl ?_
  refine And.intro (fun h0 => ?_) (fun h0 => ?_)
  · refine bd ?_
    rw [List.length_map] at h0
    rw [objsF, h0]; rfl
  rw [List.length_map] at h0
  have hob : objsF L b = chainK (objF L b) none b.objects := by rw [objsF, h0]; rfl
  rw [hob]
  repeat refine And.intro rfl ?_
  refine ⟨fun m l h => ∃ (i : Nat) , m = b.objects.length - i ∧ i ≤ b.objects.length ∧ (chainK (objF L b) none b.objects = chainK (objF L b) (prevO b.objects i) (b.objects.drop i)) ∧ l = [(2, .ptr 0 0), (3, .ptr 1 0), (5, .d (.int .i64 i))] ∧ h = ⟨[(1, .cells 50 (b.e.map .d)), (0, .cells 43 (L.e.map .d))], 2, 0⟩,
    ⟨_, _, _, ⟨0, rfl, Nat.zero_le _, rfl, rfl, rfl⟩, rfl, rfl, ⟨rfl, rfl, rfl, trivial⟩, (by repeat' first|exact rfl|exact trivial|refine And.intro ?_ ?_), (by repeat' first|exact rfl|exact trivial|refine And.intro ?_ ?_)⟩, ?_⟩
  rintro m l hh ⟨i, rfl, hi, hr, rfl, rfl⟩
  repeat refine And.intro rfl ?_
  refine And.intro (fun h1 => ?_) (fun h1 => ?_)
  · have hlt : i < b.objects.length := lt_map h1
    rw [chain_step hlt] at hr
    repeat refine And.intro rfl ?_
    refine ix_at (e := GateObject.e) (xs := b.objects) (hlt) rfl ?_
    repeat refine And.intro rfl ?_
    have hvb := (ok_bobj hok.2 (List.getElem_mem hlt)).1
    generalize ho : b.objects[i] = o at *
    have hob0 : ∀ c, (match prevO b.objects i with | some q => ltTwo q.kind q.name o.kind o.name | none => true) = c → objF L b (prevO b.objects i) o = (c && restF' L b o) := fun c h => by rw [← h]; rfl
    repeat refine And.intro rfl ?_
    refine Or.inl (Exists.intro _ (And.intro (s_l2Check _ _) ?_))
    repeat refine And.intro rfl ?_
    refine And.intro (fun c1 => ?_) (fun c1 => ?_)
    · have c1 : ((l2F L.shapes o).1 == 0) = true := nbf c1
      repeat refine And.intro rfl ?_
      refine Or.inl (Exists.intro _ (And.intro (s_l4Team _ _) ?_))
      repeat refine And.intro rfl ?_
      refine And.intro (fun c2 => ?_) (fun c2 => ?_)
      · have c2 : (L.teams.any (·.name == o.team)) = true := nbf c2
        repeat refine And.intro rfl ?_
        refine Or.inl (Exists.intro _ (And.intro (s_l1In _ _ _) ?_))
        repeat refine And.intro rfl ?_
        refine And.intro (fun c3 => ?_) (fun c3 => ?_)
        · have c3 : inR o.version 1 b.now = false := nbt c3
          repeat refine And.intro rfl ?_
          refine bd ?_
          rw [hr, show objF L b (prevO b.objects i) o = false from by rw [hob0 _ rfl]; simp only [restF', c1,c2,c3, Bool.true_and, Bool.false_and, Bool.and_false, Bool.and_true]]
          rfl
        · have c3 : inR o.version 1 b.now = true := nbf c3
          repeat refine And.intro rfl ?_
          refine And.intro (by kernel_rfl) ?_
          repeat refine And.intro rfl ?_
          repeat refine And.intro rfl ?_
          refine And.intro (fun p1 => ?_) (fun p1 => ?_)
          · have h3 := gt0 p1
            have hpv : prevO b.objects i = some (b.objects[i - 1]'(by omega)) := prevO_some h3 hlt
            repeat refine And.intro rfl ?_
            refine ix_atw (e := GateObject.e) (xs := b.objects) ((show i - 1 < b.objects.length by omega)) (wrap_pred h3 hlt hs) rfl ?_
            repeat refine And.intro rfl ?_
            repeat refine And.intro rfl ?_
            refine ix_atw (e := GateObject.e) (xs := b.objects) ((show i - 1 < b.objects.length by omega)) (wrap_pred h3 hlt hs) rfl ?_
            repeat refine And.intro rfl ?_
            rw [hpv] at hob0
            repeat refine And.intro rfl ?_
            refine Or.inl (Exists.intro _ (And.intro (s_l5Two _ _ _ _) ?_))
            repeat refine And.intro rfl ?_
            refine And.intro (fun p2 => ?_) (fun p2 => ?_)
            · have hp := (twoF_ge _ _ _ _).symm.trans p2
              rw [Bool.not_eq_true'] at hp
              repeat refine And.intro rfl ?_
              refine bd ?_
              rw [hr, hpv, hob0 false hp]; rfl
            · have hp := (twoF_ge _ _ _ _).symm.trans p2
              rw [Bool.not_eq_false'] at hp
              rw [hpv, hob0 true hp, Bool.true_and] at hr
              repeat refine And.intro rfl ?_
              refine And.intro (by kernel_rfl) ?_
              repeat refine And.intro rfl ?_
              repeat refine And.intro rfl ?_
              refine Or.inl (Exists.intro _ (And.intro (s_l3Shaped L.shapes L.mends o hx hmm) ?_))
              repeat refine And.intro rfl ?_
              refine Or.inl (Exists.intro _ (And.intro (s_l5SameTexts _ _) ?_))
              repeat refine And.intro rfl ?_
              refine And.intro (fun c5 => ?_) (fun c5 => ?_)
              · have c5 : ((shapedF L.shapes L.mends o).values == o.values) = false := nbt c5
                repeat refine And.intro rfl ?_
                refine bd ?_
                rw [hr, show restF' L b o = false from by simp only [restF', c1,c2,c3,c5, Bool.true_and, Bool.false_and, Bool.and_false, Bool.and_true]]
                rfl
              · have c5 : ((shapedF L.shapes L.mends o).values == o.values) = true := nbf c5
                have hrest : restF' L b o = (linksF (fieldsF L.shapes o.kind o.values.length).1 o.values 0).all (fun p => findF b p.2.to_ (vAt o.values p.1)) := by simp only [restF', c1, c2, c3, c5, Bool.true_and]; rfl
                rw [hrest] at hr
                repeat refine And.intro rfl ?_
                refine Or.inl (Exists.intro _ (And.intro (s_l2Fields _ _) ?_))
                have hfl := (fieldsF_len (xs := L.shapes) (k := o.kind) (n := o.values.length)).2 (l2F_form c1)
                generalize (fieldsF L.shapes o.kind o.values.length).1 = fs at *
                have hfs : fs.length ≤ big := by omega
                generalize hlk : (linksF fs o.values 0).all (fun p => findF b p.2.to_ (vAt o.values p.1)) = lk at *
                generalize hck : chainK (objF L b) none b.objects = ck at *
                have hrO := hr
                clear hr
                repeat refine And.intro rfl ?_
                repeat refine And.intro rfl ?_
                refine ⟨fun m l h => ∃ (k : Nat) , m = fs.length - k ∧ k ≤ fs.length ∧ (lk = (linksF (fs.drop k) (o.values.drop k) k).all (fun p => findF b p.2.to_ (vAt o.values p.1))) ∧ l = [(2, .ptr 0 0), (3, .ptr 1 0), (5, .d (.int .i64 i)), (6, .ptr 2 0), (9, .d (lGateField fs)), (11, .d (.int .i64 k))] ∧ h = ⟨[(2, .cells 145 (o.e.map .d)), (1, .cells 50 (b.e.map .d)), (0, .cells 43 (L.e.map .d))], 3, 0⟩,
                  ⟨_, _, _, ⟨0, rfl, Nat.zero_le _, hlk.symm, rfl, rfl⟩, rfl, rfl, ⟨rfl, rfl, rfl, rfl, rfl, rfl, trivial⟩, (by repeat' first|exact rfl|exact trivial|refine And.intro ?_ ?_), (by repeat' first|exact rfl|exact trivial|refine And.intro ?_ ?_)⟩, ?_⟩
                rintro m l hh ⟨k, rfl, hk, hr, rfl, rfl⟩
                repeat refine And.intro rfl ?_
                refine And.intro (fun g1 => ?_) (fun g1 => ?_)
                · have hlk1 : k < fs.length := lt_map g1
                  have hlk2 : k < o.values.length := by omega
                  rw [linksF_step hlk1 hlk2] at hr
                  repeat refine And.intro rfl ?_
                  refine And.intro (by kernel_rfl) ?_
                  repeat refine And.intro rfl ?_
                  repeat refine And.intro rfl ?_
                  refine ix_at (e := GateField.e) (xs := fs) (hlk1) rfl ?_
                  repeat refine And.intro rfl ?_
                  repeat refine And.intro rfl ?_
                  refine And.intro (fun g2 => ?_) (fun g2 => ?_)
                  · repeat refine And.intro rfl ?_
                    refine ix_at (e := eB) (xs := o.values) (hlk2) rfl ?_
                    repeat refine And.intro rfl ?_
                    repeat refine And.intro rfl ?_
                    refine And.intro (fun g3 => ?_) (fun g3 => ?_)
                    · have hc : (fs[k].kind == 4 && !(o.values[k] == [])) = true := by rw [g2]; exact g3
                      rw [hc, cond_true, List.all_cons] at hr
                      repeat refine And.intro rfl ?_
                      refine ix_at (e := GateField.e) (xs := fs) (hlk1) rfl ?_
                      repeat refine And.intro rfl ?_
                      repeat refine And.intro rfl ?_
                      refine ix_at (e := eB) (xs := o.values) (hlk2) rfl ?_
                      repeat refine And.intro rfl ?_
                      repeat refine And.intro rfl ?_
                      refine Or.inl (Exists.intro _ (And.intro (s_l5At _ _ _) ?_))
                      repeat refine And.intro rfl ?_
                      refine And.intro (fun g4 => ?_) (fun g4 => ?_)
                      · refine bd ?_
                        rw [vAt_eq hlk2, findF_no g4, Bool.false_and] at hr
                        rw [hrO, hr]; rfl
                      · rw [vAt_eq hlk2, findF_yes g4, Bool.true_and] at hr
                        repeat refine And.intro rfl ?_
                        exact ⟨_, _, _, ⟨k + 1, rfl, hlk1, hr, rfl, rfl⟩, by omega, rfl, rfl, ⟨rfl, rfl, rfl, rfl, rfl, nd (wrap_succ hlk1 hfs), trivial⟩, (by repeat' first|exact rfl|exact trivial|refine And.intro ?_ ?_), (by repeat' first|exact rfl|exact trivial|refine And.intro ?_ ?_)⟩
                    · have hc : (fs[k].kind == 4 && !(o.values[k] == [])) = false := by rw [g2]; exact g3
                      rw [hc, cond_false] at hr
                      repeat refine And.intro rfl ?_
                      refine And.intro (fun h => absurd h (by simp)) (fun _ => ?_)
                      repeat refine And.intro rfl ?_
                      exact ⟨_, _, _, ⟨k + 1, rfl, hlk1, hr, rfl, rfl⟩, by omega, rfl, rfl, ⟨rfl, rfl, rfl, rfl, rfl, nd (wrap_succ hlk1 hfs), trivial⟩, (by repeat' first|exact rfl|exact trivial|refine And.intro ?_ ?_), (by repeat' first|exact rfl|exact trivial|refine And.intro ?_ ?_)⟩
                  · have hc : (fs[k].kind == 4 && !(o.values[k] == [])) = false := by rw [g2]; rfl
                    rw [hc, cond_false] at hr
                    repeat refine And.intro rfl ?_
                    refine And.intro (fun h => absurd h (by simp)) (fun _ => ?_)
                    repeat refine And.intro rfl ?_
                    refine And.intro (fun h => absurd h (by simp)) (fun _ => ?_)
                    repeat refine And.intro rfl ?_
                    exact ⟨_, _, _, ⟨k + 1, rfl, hlk1, hr, rfl, rfl⟩, by omega, rfl, rfl, ⟨rfl, rfl, rfl, rfl, rfl, nd (wrap_succ hlk1 hfs), trivial⟩, (by repeat' first|exact rfl|exact trivial|refine And.intro ?_ ?_), (by repeat' first|exact rfl|exact trivial|refine And.intro ?_ ?_)⟩
                · rw [List.drop_of_length_le (ge_map g1), linksF_nil rfl] at hr
                  have hl : lk = true := hr
                  rw [hl, Bool.true_and] at hrO
                  repeat refine And.intro rfl ?_
                  exact ⟨_, _, _, ⟨i + 1, rfl, hlt, hrO, rfl, rfl⟩, by omega, rfl, rfl, ⟨rfl, rfl, nd (wrap_succ hlt hs), trivial⟩, (by repeat' first|exact rfl|exact trivial|refine And.intro ?_ ?_), (by repeat' first|exact rfl|exact trivial|refine And.intro ?_ ?_)⟩
          · have hpv := prevO_none (xs := b.objects) (le0 p1)
            rw [hpv] at hr
            rw [hpv] at hob0
            rw [hob0 true rfl, Bool.true_and] at hr
            repeat refine And.intro rfl ?_
            refine And.intro (fun h => absurd h (by simp)) (fun _ => ?_)
            repeat refine And.intro rfl ?_
            refine And.intro (by kernel_rfl) ?_
            repeat refine And.intro rfl ?_
            repeat refine And.intro rfl ?_
            refine Or.inl (Exists.intro _ (And.intro (s_l3Shaped L.shapes L.mends o hx hmm) ?_))
            repeat refine And.intro rfl ?_
            refine Or.inl (Exists.intro _ (And.intro (s_l5SameTexts _ _) ?_))
            repeat refine And.intro rfl ?_
            refine And.intro (fun c5 => ?_) (fun c5 => ?_)
            · have c5 : ((shapedF L.shapes L.mends o).values == o.values) = false := nbt c5
              repeat refine And.intro rfl ?_
              refine bd ?_
              rw [hr, show restF' L b o = false from by simp only [restF', c1,c2,c3,c5, Bool.true_and, Bool.false_and, Bool.and_false, Bool.and_true]]
              rfl
            · have c5 : ((shapedF L.shapes L.mends o).values == o.values) = true := nbf c5
              have hrest : restF' L b o = (linksF (fieldsF L.shapes o.kind o.values.length).1 o.values 0).all (fun p => findF b p.2.to_ (vAt o.values p.1)) := by simp only [restF', c1, c2, c3, c5, Bool.true_and]; rfl
              rw [hrest] at hr
              repeat refine And.intro rfl ?_
              refine Or.inl (Exists.intro _ (And.intro (s_l2Fields _ _) ?_))
              have hfl := (fieldsF_len (xs := L.shapes) (k := o.kind) (n := o.values.length)).2 (l2F_form c1)
              generalize (fieldsF L.shapes o.kind o.values.length).1 = fs at *
              have hfs : fs.length ≤ big := by omega
              generalize hlk : (linksF fs o.values 0).all (fun p => findF b p.2.to_ (vAt o.values p.1)) = lk at *
              generalize hck : chainK (objF L b) none b.objects = ck at *
              have hrO := hr
              clear hr
              repeat refine And.intro rfl ?_
              repeat refine And.intro rfl ?_
              refine ⟨fun m l h => ∃ (k : Nat) , m = fs.length - k ∧ k ≤ fs.length ∧ (lk = (linksF (fs.drop k) (o.values.drop k) k).all (fun p => findF b p.2.to_ (vAt o.values p.1))) ∧ l = [(2, .ptr 0 0), (3, .ptr 1 0), (5, .d (.int .i64 i)), (6, .ptr 2 0), (9, .d (lGateField fs)), (11, .d (.int .i64 k))] ∧ h = ⟨[(2, .cells 145 (o.e.map .d)), (1, .cells 50 (b.e.map .d)), (0, .cells 43 (L.e.map .d))], 3, 0⟩,
                ⟨_, _, _, ⟨0, rfl, Nat.zero_le _, hlk.symm, rfl, rfl⟩, rfl, rfl, ⟨rfl, rfl, rfl, rfl, rfl, rfl, trivial⟩, (by repeat' first|exact rfl|exact trivial|refine And.intro ?_ ?_), (by repeat' first|exact rfl|exact trivial|refine And.intro ?_ ?_)⟩, ?_⟩
              rintro m l hh ⟨k, rfl, hk, hr, rfl, rfl⟩
              repeat refine And.intro rfl ?_
              refine And.intro (fun g1 => ?_) (fun g1 => ?_)
              · have hlk1 : k < fs.length := lt_map g1
                have hlk2 : k < o.values.length := by omega
                rw [linksF_step hlk1 hlk2] at hr
                repeat refine And.intro rfl ?_
                refine And.intro (by kernel_rfl) ?_
                repeat refine And.intro rfl ?_
                repeat refine And.intro rfl ?_
                refine ix_at (e := GateField.e) (xs := fs) (hlk1) rfl ?_
                repeat refine And.intro rfl ?_
                repeat refine And.intro rfl ?_
                refine And.intro (fun g2 => ?_) (fun g2 => ?_)
                · repeat refine And.intro rfl ?_
                  refine ix_at (e := eB) (xs := o.values) (hlk2) rfl ?_
                  repeat refine And.intro rfl ?_
                  repeat refine And.intro rfl ?_
                  refine And.intro (fun g3 => ?_) (fun g3 => ?_)
                  · have hc : (fs[k].kind == 4 && !(o.values[k] == [])) = true := by rw [g2]; exact g3
                    rw [hc, cond_true, List.all_cons] at hr
                    repeat refine And.intro rfl ?_
                    refine ix_at (e := GateField.e) (xs := fs) (hlk1) rfl ?_
                    repeat refine And.intro rfl ?_
                    repeat refine And.intro rfl ?_
                    refine ix_at (e := eB) (xs := o.values) (hlk2) rfl ?_
                    repeat refine And.intro rfl ?_
                    repeat refine And.intro rfl ?_
                    refine Or.inl (Exists.intro _ (And.intro (s_l5At _ _ _) ?_))
                    repeat refine And.intro rfl ?_
                    refine And.intro (fun g4 => ?_) (fun g4 => ?_)
                    · refine bd ?_
                      rw [vAt_eq hlk2, findF_no g4, Bool.false_and] at hr
                      rw [hrO, hr]; rfl
                    · rw [vAt_eq hlk2, findF_yes g4, Bool.true_and] at hr
                      repeat refine And.intro rfl ?_
                      exact ⟨_, _, _, ⟨k + 1, rfl, hlk1, hr, rfl, rfl⟩, by omega, rfl, rfl, ⟨rfl, rfl, rfl, rfl, rfl, nd (wrap_succ hlk1 hfs), trivial⟩, (by repeat' first|exact rfl|exact trivial|refine And.intro ?_ ?_), (by repeat' first|exact rfl|exact trivial|refine And.intro ?_ ?_)⟩
                  · have hc : (fs[k].kind == 4 && !(o.values[k] == [])) = false := by rw [g2]; exact g3
                    rw [hc, cond_false] at hr
                    repeat refine And.intro rfl ?_
                    refine And.intro (fun h => absurd h (by simp)) (fun _ => ?_)
                    repeat refine And.intro rfl ?_
                    exact ⟨_, _, _, ⟨k + 1, rfl, hlk1, hr, rfl, rfl⟩, by omega, rfl, rfl, ⟨rfl, rfl, rfl, rfl, rfl, nd (wrap_succ hlk1 hfs), trivial⟩, (by repeat' first|exact rfl|exact trivial|refine And.intro ?_ ?_), (by repeat' first|exact rfl|exact trivial|refine And.intro ?_ ?_)⟩
                · have hc : (fs[k].kind == 4 && !(o.values[k] == [])) = false := by rw [g2]; rfl
                  rw [hc, cond_false] at hr
                  repeat refine And.intro rfl ?_
                  refine And.intro (fun h => absurd h (by simp)) (fun _ => ?_)
                  repeat refine And.intro rfl ?_
                  refine And.intro (fun h => absurd h (by simp)) (fun _ => ?_)
                  repeat refine And.intro rfl ?_
                  exact ⟨_, _, _, ⟨k + 1, rfl, hlk1, hr, rfl, rfl⟩, by omega, rfl, rfl, ⟨rfl, rfl, rfl, rfl, rfl, nd (wrap_succ hlk1 hfs), trivial⟩, (by repeat' first|exact rfl|exact trivial|refine And.intro ?_ ?_), (by repeat' first|exact rfl|exact trivial|refine And.intro ?_ ?_)⟩
              · rw [List.drop_of_length_le (ge_map g1), linksF_nil rfl] at hr
                have hl : lk = true := hr
                rw [hl, Bool.true_and] at hrO
                repeat refine And.intro rfl ?_
                exact ⟨_, _, _, ⟨i + 1, rfl, hlt, hrO, rfl, rfl⟩, by omega, rfl, rfl, ⟨rfl, rfl, nd (wrap_succ hlt hs), trivial⟩, (by repeat' first|exact rfl|exact trivial|refine And.intro ?_ ?_), (by repeat' first|exact rfl|exact trivial|refine And.intro ?_ ?_)⟩
      · have c2 : (L.teams.any (·.name == o.team)) = false := nbt c2
        repeat refine And.intro rfl ?_
        refine bd ?_
        rw [hr, show objF L b (prevO b.objects i) o = false from by rw [hob0 _ rfl]; simp only [restF', c1,c2, Bool.true_and, Bool.false_and, Bool.and_false, Bool.and_true]]
        rfl
    · have c1 : ((l2F L.shapes o).1 == 0) = false := nbt c1
      repeat refine And.intro rfl ?_
      refine bd ?_
      rw [hr, show objF L b (prevO b.objects i) o = false from by rw [hob0 _ rfl]; simp only [restF', c1, Bool.true_and, Bool.false_and, Bool.and_false, Bool.and_true]]
      rfl
  · refine bd ?_
    rw [hr, chain_end (ge_map h1)]
end Go.Vc
end

section
namespace Go.Vc
open Go.Proofs
set_option maxRecDepth 100000
set_option pp.maxSteps 400
set_option pp.deepTerms false
set_option linter.unusedSimpArgs false
set_option linter.unusedVariables false
def prevN (p : Option GateGrant) (n : Int) : Bool := match p with | some q => !decide (q.number ≥ n) | none => true
def grantF (b : GateBook) (p : Option GateGrant) (g : GateGrant) : Bool := inR g.number 1 b.given && (prevN p g.number && (nameOk g.to_ && ((g.by_ == [] || nameOk g.by_) && ruleOk g.rule)))
def grantsF (b : GateBook) : Bool := !decide ((b.grants.length : Int) > 24) && chainK (grantF b) none b.grants
theorem inR_two (n a b : Int) : inR n a b = (!decide (n < a) && !decide (n > b)) := by
  unfold inR
  congr 1
  · by_cases h : n < a
    · rw [decide_eq_true h, decide_eq_false (by omega)]; rfl
    · rw [decide_eq_false h, decide_eq_true (by omega)]; rfl
  · by_cases h : n > b
    · rw [decide_eq_true h, decide_eq_false (by omega)]; rfl
    · rw [decide_eq_false h, decide_eq_true (by omega)]; rfl
set_option maxHeartbeats 2000000 in
theorem i_grantsOk (b : GateBook) : Spec P 78 [st b.e] (.d (.bool (grantsF b))) := by
  refine Spec.of_vc vcT vcM [.tmp 2] Tryz.func78 rfl rfl rfl rfl (fun hok => ?_)
  have hs := (ok_book hok).2.1
  repeat refine And.intro rfl ?_
  refine And.intro (fun h0 => ?_) (fun h0 => ?_)
  · refine bd ?_
    rw [List.length_map] at h0
    rw [grantsF, h0]; rfl
  rw [List.length_map] at h0
  have hob : grantsF b = chainK (grantF b) none b.grants := by rw [grantsF, h0]; rfl
  rw [hob]
  repeat refine And.intro rfl ?_
  refine ⟨fun m l h => ∃ (i : Nat) , m = b.grants.length - i ∧ i ≤ b.grants.length ∧ (chainK (grantF b) none b.grants = chainK (grantF b) (prevO b.grants i) (b.grants.drop i)) ∧ l = [(1, .ptr 0 0), (10, .d (lGateGrant b.grants)), (11, .d (.int .i64 (b.grants.map GateGrant.e).length)), (12, .d (.int .i64 i))] ∧ h = ⟨[(0, .cells 50 (b.e.map .d))], 1, 0⟩,
    ⟨_, _, _, ⟨0, rfl, Nat.zero_le _, rfl, rfl, rfl⟩, rfl, rfl, ⟨rfl, rfl, rfl, rfl, trivial⟩, ⟨rfl, trivial⟩, ⟨rfl, trivial⟩⟩, ?_⟩
  rintro m l hh ⟨i, rfl, hi, hr, rfl, rfl⟩
  repeat refine And.intro rfl ?_
  refine And.intro (fun h1 => ?_) (fun h1 => ?_)
  · have hlt : i < b.grants.length := lt_map h1
    rw [chain_step hlt] at hr
    repeat refine And.intro rfl ?_
    refine ix_at (e := GateGrant.e) (xs := b.grants) (hlt) rfl ?_
    repeat refine And.intro rfl ?_
    repeat refine And.intro rfl ?_
    refine And.intro (by kernel_rfl) ?_
    repeat refine And.intro rfl ?_
    repeat' first
      | refine And.intro rfl ?_
      | refine And.intro (fun h => nomatch (show true = false from h)) (fun h => ?_)
      | refine And.intro (fun h => nomatch (show false = true from h)) (fun h => ?_)
      | refine And.intro (fun h => ?_) (fun h => nomatch (show true = false from h))
      | refine And.intro (fun h => ?_) (fun h => nomatch (show false = true from h))
      | refine And.intro (fun h => ?_) (fun h => ?_)
      | refine Or.inl (Exists.intro _ (And.intro (i_isName _) ?_))
      | refine Or.inl (Exists.intro _ (And.intro (i_ruleOk _) ?_))
      | refine And.intro (by kernel_rfl) ?_
      | refine ix_atw (e := GateGrant.e) (xs := b.grants) (k := i - 1) (by omega) (wrap_pred (gt0 (by assumption)) hlt hs) rfl ?_
    all_goals (first | rw [prevO_some (gt0 (by assumption)) hlt] at hr | rw [prevO_none (le0 (by assumption))] at hr | skip)
    all_goals (simp only [cond_false, cond_true, Bool.not_eq_true', Bool.not_eq_false', reduceCtorEq] at *)
    all_goals first
      | (refine bd ?_
         rw [hr]
         clear hr
         simp only [grantF, prevN, inR_two, *, Bool.true_and, Bool.and_true, Bool.false_and, Bool.and_false, Bool.true_or, Bool.or_true, Bool.false_or, Bool.or_false, Bool.not_true, Bool.not_false]
         done)
      | (refine (fun hq : chainK (grantF b) none b.grants = chainK (grantF b) (prevO b.grants (i + 1)) (b.grants.drop (i + 1)) => ?_) ?_
         rotate_left
         · rw [hr]
           clear hr
           simp only [grantF, prevN, inR_two, *, Bool.true_and, Bool.and_true, Bool.false_and, Bool.and_false, Bool.true_or, Bool.or_true, Bool.false_or, Bool.or_false, Bool.not_true, Bool.not_false]
           done
         · repeat refine And.intro rfl ?_
           refine ⟨_, _, _, ⟨i + 1, rfl, hlt, hq, rfl, rfl⟩, by omega, rfl, rfl, ?_, ?_, ?_⟩
           all_goals (repeat' first | exact rfl | exact trivial | exact nd (wrap_succ hlt hs) | refine And.intro ?_ ?_))
  · refine bd ?_
    rw [hr, chain_end (ge_map h1)]
set_option maxHeartbeats 2000000 in
theorem s_l5GrantsOk (b : GateBook) : Spec P 65 [st b.e] (.d (.bool (grantsF b))) := by
  refine Spec.of_vc vcT vcM [.tmp 2] Tryz.func65 rfl rfl rfl rfl (fun hok => ?_)
  have hs := (ok_book hok).2.1
  repeat refine And.intro rfl ?_
  refine And.intro (fun h0 => ?_) (fun h0 => ?_)
  · refine bd ?_
    rw [List.length_map] at h0
    rw [grantsF, h0]; rfl
  rw [List.length_map] at h0
  have hob : grantsF b = chainK (grantF b) none b.grants := by rw [grantsF, h0]; rfl
  rw [hob]
  repeat refine And.intro rfl ?_
  refine ⟨fun m l h => ∃ (i : Nat) , m = b.grants.length - i ∧ i ≤ b.grants.length ∧ (chainK (grantF b) none b.grants = chainK (grantF b) (prevO b.grants i) (b.grants.drop i)) ∧ l = [(1, .ptr 0 0), (3, .d (.int .i64 i))] ∧ h = ⟨[(0, .cells 50 (b.e.map .d))], 1, 0⟩,
    ⟨_, _, _, ⟨0, rfl, Nat.zero_le _, rfl, rfl, rfl⟩, rfl, rfl, ⟨rfl, rfl, trivial⟩, ⟨rfl, trivial⟩, ⟨rfl, trivial⟩⟩, ?_⟩
  rintro m l hh ⟨i, rfl, hi, hr, rfl, rfl⟩
  repeat refine And.intro rfl ?_
  refine And.intro (fun h1 => ?_) (fun h1 => ?_)
  · have hlt : i < b.grants.length := lt_map h1
    rw [chain_step hlt] at hr
    repeat refine And.intro rfl ?_
    refine ix_at (e := GateGrant.e) (xs := b.grants) (hlt) rfl ?_
    repeat refine And.intro rfl ?_
    repeat refine And.intro rfl ?_
    refine And.intro (by kernel_rfl) ?_
    repeat refine And.intro rfl ?_
    repeat' first
      | refine And.intro rfl ?_
      | refine And.intro (fun h => nomatch (show true = false from h)) (fun h => ?_)
      | refine And.intro (fun h => nomatch (show false = true from h)) (fun h => ?_)
      | refine And.intro (fun h => ?_) (fun h => nomatch (show true = false from h))
      | refine And.intro (fun h => ?_) (fun h => nomatch (show false = true from h))
      | refine And.intro (fun h => ?_) (fun h => ?_)
      | refine Or.inl (Exists.intro _ (And.intro (s_l1In _ _ _) ?_))
      | refine Or.inl (Exists.intro _ (And.intro (s_l1NameOk _) ?_))
      | refine Or.inl (Exists.intro _ (And.intro (s_l4RuleOk _) ?_))
      | refine And.intro (by kernel_rfl) ?_
      | refine ix_atw (e := GateGrant.e) (xs := b.grants) (k := i - 1) (by omega) (wrap_pred (gt0 (by assumption)) hlt hs) rfl ?_
    all_goals (first | rw [prevO_some (gt0 (by assumption)) hlt] at hr | rw [prevO_none (le0 (by assumption))] at hr | skip)
    all_goals (simp only [cond_false, cond_true, Bool.not_eq_true', Bool.not_eq_false', reduceCtorEq] at *)
    all_goals first
      | (refine bd ?_
         rw [hr]
         clear hr
         simp only [grantF, prevN,  *, Bool.true_and, Bool.and_true, Bool.false_and, Bool.and_false, Bool.true_or, Bool.or_true, Bool.false_or, Bool.or_false, Bool.not_true, Bool.not_false]
         done)
      | (refine (fun hq : chainK (grantF b) none b.grants = chainK (grantF b) (prevO b.grants (i + 1)) (b.grants.drop (i + 1)) => ?_) ?_
         rotate_left
         · rw [hr]
           clear hr
           simp only [grantF, prevN,  *, Bool.true_and, Bool.and_true, Bool.false_and, Bool.and_false, Bool.true_or, Bool.or_true, Bool.false_or, Bool.or_false, Bool.not_true, Bool.not_false]
           done
         · repeat refine And.intro rfl ?_
           refine ⟨_, _, _, ⟨i + 1, rfl, hlt, hq, rfl, rfl⟩, by omega, rfl, rfl, ?_, ?_, ?_⟩
           all_goals (repeat' first | exact rfl | exact trivial | exact nd (wrap_succ hlt hs) | refine And.intro ?_ ?_))
  · refine bd ?_
    rw [hr, chain_end (ge_map h1)]
end Go.Vc
end

section
namespace Go.Vc
open Go.Proofs
set_option maxRecDepth 100000
set_option pp.maxSteps 400
set_option pp.deepTerms false
set_option linter.unusedSimpArgs false
set_option linter.unusedVariables false
def underF (xs : List GateTeam) : Nat → Bs → Bs → Bool
  | 0, a, b => a == b
  | k + 1, a, b => a == b || (!(overF a xs == []) && underF xs k (overF a xs) b)
def under (xs : List GateTeam) (a b : Bs) : Bool := underF xs 4 a b
theorem overF_none : ∀ {xs : List GateTeam} {n : Bs}, xs.any (·.name == n) = false → overF n xs = []
  | [], _, _ => rfl
  | x :: xs, n, h => by
    rw [List.any_cons, Bool.or_eq_false_iff] at h
    simp only [overF, h.1, cond_false]
    exact overF_none h.2
theorem wrap_lt {k n : Nat} (h : k < n) (hn : n ≤ 100) : IntKind.i64.wrap ((k : Int) + 1) = ((k + 1 : Nat) : Int) := by
  rw [IntKind.wrap_i64]; omega
theorem s_GateUnder (xs : List GateTeam) (a b : Bs) : Spec P 97 [.d (lGateTeam xs), .d (.str a), .d (.str b)] (.d (.bool (under xs a b))) := by
  refine Spec.of_vc vcT vcM [.tmp 6] Tryz.func97 rfl rfl rfl rfl (fun hok => ?_)
  repeat refine And.intro rfl ?_
  refine And.intro (fun h0 => ?_) (fun h0 => ?_)
  · refine bd ?_
    simp only [under, underF, h0, Bool.true_or]
  have hu : under xs a b = (!(overF a xs == []) && underF xs 3 (overF a xs) b) := by simp only [under, underF, h0, Bool.false_or]
  rw [hu]
  repeat refine And.intro rfl ?_
  refine ⟨fun m l h => ∃ (s : Nat) (x : Bs), m = 4 - s ∧ s ≤ 4 ∧ (!(overF a xs == []) && underF xs 3 (overF a xs) b) = (bif Nat.ble 4 s then false else (!(overF x xs == []) && underF xs (3 - s) (overF x xs) b)) ∧ l = [(0, .d (lGateTeam xs)), (1, .d (.str x)), (2, .d (.str b)), (7, .d (.int .i64 s))] ∧ h = hp0,
    ⟨_, _, _, ⟨0, a, rfl, by decide, rfl, rfl, rfl⟩, rfl, rfl, ⟨rfl, rfl, rfl, rfl, trivial⟩, trivial, trivial⟩, ?_⟩
  rintro m l hh ⟨s, x, rfl, hs, hr, rfl, rfl⟩
  repeat refine And.intro rfl ?_
  refine And.intro (fun h1 => ?_) (fun h1 => ?_)
  · have hs4 : s < 4 := by have := of_decide_eq_true h1; omega
    rw [show Nat.ble 4 s = false from by cases e : Nat.ble 4 s; rfl; have := Nat.le_of_ble_eq_true e; omega, cond_false] at hr
    repeat refine And.intro rfl ?_
    refine Or.inl (Exists.intro _ (And.intro (s_l4Over _ _) ?_))
    repeat refine And.intro rfl ?_
    refine And.intro (fun h2 => ?_) (fun h2 => ?_)
    · refine bd ?_
      rw [hr, h2]; rfl
    · rw [h2, Bool.not_false, Bool.true_and] at hr
      generalize overF x xs = y at *
      repeat refine And.intro rfl ?_
      refine And.intro (fun h3 => ?_) (fun h3 => ?_)
      · refine bd ?_
        rw [hr]
        cases (3 - s) <;> simp only [underF, h3, Bool.true_or]
      · repeat refine And.intro rfl ?_
        refine ⟨_, _, _, ⟨s + 1, y, rfl, hs4, ?_, rfl, rfl⟩, by omega, rfl, rfl, ⟨rfl, rfl, rfl, nd (wrap_lt hs4 (by decide)), trivial⟩, trivial, trivial⟩
        rw [hr]
        rcases (show s = 0 ∨ s = 1 ∨ s = 2 ∨ s = 3 by omega) with rfl | rfl | rfl | rfl
        · show (y == b || _) = _
          rw [h3]; rfl
        · show (y == b || _) = _
          rw [h3]; rfl
        · show (y == b || _) = _
          rw [h3]; rfl
        · exact h3
  · have hs4 : s = 4 := by have := of_decide_eq_false h1; omega
    subst hs4
    refine bd ?_
    rw [hr]; rfl
theorem i_GateUnder (xs : List GateTeam) (a b : Bs) : Spec P 172 [.d (lGateTeam xs), .d (.str a), .d (.str b)] (.d (.bool (under xs a b))) := by
  refine Spec.of_vc vcT vcM [.tmp 6] Tryz.func172 rfl rfl rfl rfl (fun hok => ?_)
  refine ⟨fun m l h => ∃ (s : Nat) (x : Bs), m = 4 - s ∧ s ≤ 4 ∧ under xs a b = underF xs (4 - s) x b ∧ l = [(0, .d (lGateTeam xs)), (1, .d (.str x)), (2, .d (.str b)), (7, .d (.int .i64 s))] ∧ h = hp0,
    ⟨_, _, _, ⟨0, a, rfl, by decide, rfl, rfl, rfl⟩, rfl, rfl, ⟨rfl, rfl, rfl, rfl, trivial⟩, trivial, trivial⟩, ?_⟩
  rintro m l hh ⟨s, x, rfl, hs, hr, rfl, rfl⟩
  repeat refine And.intro rfl ?_
  refine And.intro (fun h1 => ?_) (fun h1 => ?_)
  · have h1 : (x == b) = false := nbt h1
    repeat refine And.intro rfl ?_
    refine Or.inl (Exists.intro _ (And.intro (i_teamOf _ _) ?_))
    repeat refine And.intro rfl ?_
    refine And.intro (fun h2 => ?_) (fun h2 => ?_)
    · have hs4 : s < 4 := by
        have := beq_eq_false_iff_ne.1 h2
        omega
      have hu : underF xs (4 - s) x b = (!(overF x xs == []) && underF xs (4 - (s + 1)) (overF x xs) b) := by
        rw [show 4 - s = (4 - (s + 1)) + 1 from by omega]
        show (x == b || _) = _
        rw [h1]; rfl
      rw [hu] at hr
      repeat refine And.intro rfl ?_
      refine And.intro (fun h3 => ?_) (fun h3 => ?_)
      · obtain ⟨j, hj, ej, _⟩ := idx_pos (p := fun t : GateTeam => t.name == x) (xs := xs) (decide_eq_true (by have := of_decide_eq_false h3; omega))
        obtain ⟨_, eo⟩ := overF_idx (n := x) (xs := xs) (k := 0) (j := j) (by rw [Nat.zero_add]; exact ej)
        repeat refine And.intro rfl ?_
        refine ix_atw (e := GateTeam.e) (xs := xs) (hj) (ej) rfl ?_
        repeat refine And.intro rfl ?_
        repeat refine And.intro rfl ?_
        refine And.intro (fun h4 => ?_) (fun h4 => ?_)
        · refine bd ?_
          rw [hr, eo, h4]; rfl
        · repeat refine And.intro rfl ?_
          refine ix_atw (e := GateTeam.e) (xs := xs) (hj) (ej) rfl ?_
          repeat refine And.intro rfl ?_
          rw [eo, h4, Bool.not_false, Bool.true_and] at hr
          repeat refine And.intro rfl ?_
          exact ⟨_, _, _, ⟨s + 1, _, rfl, hs4, hr, rfl, rfl⟩, by omega, rfl, rfl, ⟨rfl, rfl, rfl, nd (wrap_lt hs4 (by decide)), trivial⟩, trivial, trivial⟩
      · have hn := nbt (idx_lt.symm.trans h3)
        rw [overF_none hn] at hr
        refine bd ?_
        rw [hr]; rfl
    · have hs4 : s = 4 := by
        have := beq_iff_eq.1 h2
        omega
      subst hs4
      refine bd ?_
      rw [hr]
      exact h1.symm
  · have h1 : (x == b) = true := nbf h1
    refine bd ?_
    rw [hr]
    cases (4 - s) <;> simp only [underF, h1, Bool.true_or]
def wadd (a b : Int) : Int := IntKind.i64.wrap (a + b)
theorem wadd_zero {a : Int} (h : IntKind.i64.wrap a = a) : wadd a 0 = a := by unfold wadd; rw [Int.add_zero, h]
theorem wrap_wrap (a : Int) : IntKind.i64.wrap (IntKind.i64.wrap a) = IntKind.i64.wrap a := by simp only [IntKind.wrap_i64]; omega
theorem wadd_in (a b : Int) : IntKind.i64.wrap (wadd a b) = wadd a b := wrap_wrap _
theorem wrap01 (c : Bool) : IntKind.i64.wrap (bif c then 1 else 0) = bif c then 1 else 0 := by cases c <;> rfl
def weighK (r : Bs) : List GateField → List Bs → Int → Int
  | f :: fs, v :: vs, n => weighK r fs vs (bif f.kind == 1 && f.weighs == r then wadd n (numD v) else n)
  | _, _, n => n
theorem weighK_step {r : Bs} {fs : List GateField} {vs : List Bs} {i : Nat} {n : Int} (h : i < fs.length) (h2 : i < vs.length) : weighK r (fs.drop i) (vs.drop i) n = weighK r (fs.drop (i + 1)) (vs.drop (i + 1)) (bif fs[i].kind == 1 && fs[i].weighs == r then wadd n (numD vs[i]) else n) := by
  rw [List.drop_eq_getElem_cons h, List.drop_eq_getElem_cons h2]; rfl
theorem weighK_end {r : Bs} {fs : List GateField} {vs : List Bs} {i : Nat} {n : Int} (h : fs.length ≤ i) : weighK r (fs.drop i) (vs.drop i) n = n := by
  rw [List.drop_of_length_le h]; rfl
def weighF (L : GateLaw) (o : GateObject) (r : Bs) : Int := bif !(fieldsF L.shapes o.kind o.values.length).2 || r == [] then 0 else weighK r (fieldsF L.shapes o.kind o.values.length).1 o.values (bif r == o.kind then 1 else 0)
theorem i_GateWeighs (L : GateLaw) (o : GateObject) (r : Bs) : Spec P 173 [st L.e, st o.e, .d (.str r)] (.d (.int .i64 (weighF L o r))) := by
  refine Spec.of_vc vcT vcM [.tmp 6] Tryz.func173 rfl rfl rfl rfl (fun hok => ?_)
  have hvb := (ok_obj (o := o) ⟨hok.2.1, trivial⟩).1
  repeat refine And.intro rfl ?_
  refine Or.inl (Exists.intro _ (And.intro (i_fieldsOf _ _) ?_))
  repeat refine And.intro rfl ?_
  refine And.intro (fun h0 => ?_) (fun h0 => ?_)
  · have h0 := nbf h0
    repeat refine And.intro rfl ?_
    refine And.intro (fun h1 => ?_) (fun h1 => ?_)
    · refine nd ?_
      simp only [weighF, h0, h1, Bool.not_true, Bool.false_or, cond_true]
    · have hw : weighF L o r = weighK r (fieldsF L.shapes o.kind o.values.length).1 o.values (bif r == o.kind then 1 else 0) := by simp only [weighF, h0, h1, Bool.not_true, Bool.false_or, cond_false]
      have hfl := (fieldsF_len (xs := L.shapes) (k := o.kind) (n := o.values.length)).2 h0
      rw [hw]
      generalize (fieldsF L.shapes o.kind o.values.length).1 = fs at *
      repeat refine And.intro rfl ?_
      refine And.intro (fun h2 => ?_) (fun h2 => ?_)
      · rw [h2, cond_true]
        repeat refine And.intro rfl ?_
        refine ⟨fun m l h => ∃ (i : Nat) (n : Int), m = fs.length - i ∧ i ≤ fs.length ∧ (weighK r fs o.values 1 = weighK r (fs.drop i) (o.values.drop i) n) ∧ l = [(2, .d (.str r)), (4, .ptr 1 0), (9, .d (.int .i64 n)), (31, .d (lGateField fs)), (32, .d (.int .i64 (fs.map GateField.e).length)), (33, .d (.int .i64 i))] ∧ h = ⟨[(1, .cells 145 (o.e.map .d)), (0, .cells 43 (L.e.map .d))], 2, 0⟩,
          ⟨_, _, _, ⟨0, _, rfl, Nat.zero_le _, rfl, rfl, rfl⟩, rfl, rfl, ⟨rfl, rfl, rfl, rfl, rfl, rfl, trivial⟩, (by repeat' first|exact rfl|exact trivial|refine And.intro ?_ ?_), (by repeat' first|exact rfl|exact trivial|refine And.intro ?_ ?_)⟩, ?_⟩
        rintro m l hh ⟨i, n, rfl, hi, hr, rfl, rfl⟩
        have hs : fs.length ≤ big := by omega
        repeat refine And.intro rfl ?_
        refine And.intro (fun g1 => ?_) (fun g1 => ?_)
        · have hlt : i < fs.length := lt_map g1
          have hlt2 : i < o.values.length := by omega
          rw [weighK_step hlt hlt2] at hr
          repeat refine And.intro rfl ?_
          refine ix_at (e := GateField.e) (xs := fs) (hlt) rfl ?_
          repeat refine And.intro rfl ?_
          repeat refine And.intro rfl ?_
          refine And.intro (fun g2 => ?_) (fun g2 => ?_)
          · repeat refine And.intro rfl ?_
            refine And.intro (fun g3 => ?_) (fun g3 => ?_)
            · have hc : (fs[i].kind == 1 && fs[i].weighs == r) = false := by rw [nbf g2, nbt g3]; rfl
              rw [hc, cond_false] at hr
              repeat refine And.intro rfl ?_
              refine ⟨_, _, _, ⟨i + 1, n, rfl, hlt, hr, rfl, rfl⟩, by omega, rfl, rfl, ?_, ?_, ?_⟩
              all_goals (repeat' first | exact rfl | exact trivial | exact nd (wrap_succ hlt hs) | refine And.intro ?_ ?_)
            · have hc : (fs[i].kind == 1 && fs[i].weighs == r) = true := by rw [nbf g2, nbf g3]; rfl
              rw [hc, cond_true] at hr
              repeat refine And.intro rfl ?_
              refine ix_at (e := eB) (xs := o.values) (hlt2) rfl ?_
              repeat refine And.intro rfl ?_
              repeat refine And.intro rfl ?_
              refine Or.inl (Exists.intro _ (And.intro (i_decimal _) ?_))
              repeat refine And.intro rfl ?_
              refine ⟨_, _, _, ⟨i + 1, wadd n (numD o.values[i]), rfl, hlt, hr, rfl, rfl⟩, by omega, rfl, rfl, ?_, ?_, ?_⟩
              all_goals (repeat' first | exact rfl | exact trivial | exact nd (wrap_succ hlt hs) | refine And.intro ?_ ?_)
          · have hc : (fs[i].kind == 1 && fs[i].weighs == r) = false := by rw [nbt g2]; rfl
            rw [hc, cond_false] at hr
            repeat refine And.intro rfl ?_
            refine ⟨_, _, _, ⟨i + 1, n, rfl, hlt, hr, rfl, rfl⟩, by omega, rfl, rfl, ?_, ?_, ?_⟩
            all_goals (repeat' first | exact rfl | exact trivial | exact nd (wrap_succ hlt hs) | refine And.intro ?_ ?_)
        · refine nd ?_
          rw [hr, weighK_end (ge_map g1)]
      · rw [h2, cond_false]
        repeat refine And.intro rfl ?_
        refine ⟨fun m l h => ∃ (i : Nat) (n : Int), m = fs.length - i ∧ i ≤ fs.length ∧ (weighK r fs o.values 0 = weighK r (fs.drop i) (o.values.drop i) n) ∧ l = [(2, .d (.str r)), (4, .ptr 1 0), (9, .d (.int .i64 n)), (31, .d (lGateField fs)), (32, .d (.int .i64 (fs.map GateField.e).length)), (33, .d (.int .i64 i))] ∧ h = ⟨[(1, .cells 145 (o.e.map .d)), (0, .cells 43 (L.e.map .d))], 2, 0⟩,
          ⟨_, _, _, ⟨0, _, rfl, Nat.zero_le _, rfl, rfl, rfl⟩, rfl, rfl, ⟨rfl, rfl, rfl, rfl, rfl, rfl, trivial⟩, (by repeat' first|exact rfl|exact trivial|refine And.intro ?_ ?_), (by repeat' first|exact rfl|exact trivial|refine And.intro ?_ ?_)⟩, ?_⟩
        rintro m l hh ⟨i, n, rfl, hi, hr, rfl, rfl⟩
        have hs : fs.length ≤ big := by omega
        repeat refine And.intro rfl ?_
        refine And.intro (fun g1 => ?_) (fun g1 => ?_)
        · have hlt : i < fs.length := lt_map g1
          have hlt2 : i < o.values.length := by omega
          rw [weighK_step hlt hlt2] at hr
          repeat refine And.intro rfl ?_
          refine ix_at (e := GateField.e) (xs := fs) (hlt) rfl ?_
          repeat refine And.intro rfl ?_
          repeat refine And.intro rfl ?_
          refine And.intro (fun g2 => ?_) (fun g2 => ?_)
          · repeat refine And.intro rfl ?_
            refine And.intro (fun g3 => ?_) (fun g3 => ?_)
            · have hc : (fs[i].kind == 1 && fs[i].weighs == r) = false := by rw [nbf g2, nbt g3]; rfl
              rw [hc, cond_false] at hr
              repeat refine And.intro rfl ?_
              refine ⟨_, _, _, ⟨i + 1, n, rfl, hlt, hr, rfl, rfl⟩, by omega, rfl, rfl, ?_, ?_, ?_⟩
              all_goals (repeat' first | exact rfl | exact trivial | exact nd (wrap_succ hlt hs) | refine And.intro ?_ ?_)
            · have hc : (fs[i].kind == 1 && fs[i].weighs == r) = true := by rw [nbf g2, nbf g3]; rfl
              rw [hc, cond_true] at hr
              repeat refine And.intro rfl ?_
              refine ix_at (e := eB) (xs := o.values) (hlt2) rfl ?_
              repeat refine And.intro rfl ?_
              repeat refine And.intro rfl ?_
              refine Or.inl (Exists.intro _ (And.intro (i_decimal _) ?_))
              repeat refine And.intro rfl ?_
              refine ⟨_, _, _, ⟨i + 1, wadd n (numD o.values[i]), rfl, hlt, hr, rfl, rfl⟩, by omega, rfl, rfl, ?_, ?_, ?_⟩
              all_goals (repeat' first | exact rfl | exact trivial | exact nd (wrap_succ hlt hs) | refine And.intro ?_ ?_)
          · have hc : (fs[i].kind == 1 && fs[i].weighs == r) = false := by rw [nbt g2]; rfl
            rw [hc, cond_false] at hr
            repeat refine And.intro rfl ?_
            refine ⟨_, _, _, ⟨i + 1, n, rfl, hlt, hr, rfl, rfl⟩, by omega, rfl, rfl, ?_, ?_, ?_⟩
            all_goals (repeat' first | exact rfl | exact trivial | exact nd (wrap_succ hlt hs) | refine And.intro ?_ ?_)
        · refine nd ?_
          rw [hr, weighK_end (ge_map g1)]
  · refine nd ?_
    simp only [weighF, h0, Bool.true_or, cond_true]
end Go.Vc
end

section
namespace Go.Vc
open Go.Proofs
set_option maxRecDepth 100000
set_option pp.maxSteps 400
set_option pp.deepTerms false
set_option linter.unusedSimpArgs false
set_option linter.unusedVariables false
theorem num_pos {v : Bs} (h : decide (numF v > 0) = true) : numD v = numF v := by
  have := of_decide_eq_true h
  unfold numF numD at *
  cases e : numOf v with
  | none => rw [e] at this; simp at this
  | some n => rfl
theorem num_not {v : Bs} (h : decide (numF v > 0) = false) : numD v = 0 := by
  have := of_decide_eq_false h
  unfold numF numD at *
  cases e : numOf v with
  | none => rfl
  | some n =>
    rw [e] at this
    simp only at this ⊢
    have := numOf_nonneg e
    omega
theorem s_GateWeighs (L : GateLaw) (o : GateObject) (r : Bs) : Spec P 157 [st L.e, st o.e, .d (.str r)] (.d (.int .i64 (weighF L o r))) := by
  refine Spec.of_vc vcT vcM [.tmp 6] Tryz.func157 rfl rfl rfl rfl (fun hok => ?_)
  have hvb := (ok_obj (o := o) ⟨hok.2.1, trivial⟩).1
  repeat refine And.intro rfl ?_
  refine Or.inl (Exists.intro _ (And.intro (s_l2Fields _ _) ?_))
  repeat refine And.intro rfl ?_
  refine And.intro (fun h0 => ?_) (fun h0 => ?_)
  · have h0 := nbf h0
    repeat refine And.intro rfl ?_
    refine And.intro (fun h1 => ?_) (fun h1 => ?_)
    · refine nd ?_
      simp only [weighF, h0, h1, Bool.not_true, Bool.false_or, cond_true]
    · have hw : weighF L o r = weighK r (fieldsF L.shapes o.kind o.values.length).1 o.values (bif r == o.kind then 1 else 0) := by simp only [weighF, h0, h1, Bool.not_true, Bool.false_or, cond_false]
      have hfl := (fieldsF_len (xs := L.shapes) (k := o.kind) (n := o.values.length)).2 h0
      rw [hw]
      generalize (fieldsF L.shapes o.kind o.values.length).1 = fs at *
      repeat refine And.intro rfl ?_
      refine And.intro (fun h2 => ?_) (fun h2 => ?_)
      · rw [h2, cond_true]
        repeat refine And.intro rfl ?_
        refine ⟨fun m l h => ∃ (i : Nat) (n : Int), m = fs.length - i ∧ i ≤ fs.length ∧ (weighK r fs o.values 1 = weighK r (fs.drop i) (o.values.drop i) n ∧ IntKind.i64.wrap n = n) ∧ l = [(2, .d (.str r)), (4, .ptr 1 0), (7, .d (lGateField fs)), (9, .d (.int .i64 n)), (10, .d (.int .i64 i))] ∧ h = ⟨[(1, .cells 145 (o.e.map .d)), (0, .cells 43 (L.e.map .d))], 2, 0⟩,
          ⟨_, _, _, ⟨0, _, rfl, Nat.zero_le _, ⟨rfl, rfl⟩, rfl, rfl⟩, rfl, rfl, ⟨rfl, rfl, rfl, rfl, rfl, trivial⟩, (by repeat' first|exact rfl|exact trivial|refine And.intro ?_ ?_), (by repeat' first|exact rfl|exact trivial|refine And.intro ?_ ?_)⟩, ?_⟩
        rintro m l hh ⟨i, n, rfl, hi, hr, rfl, rfl⟩
        obtain ⟨hr, hwn⟩ := hr
        have hs : fs.length ≤ big := by omega
        repeat refine And.intro rfl ?_
        refine And.intro (fun g1 => ?_) (fun g1 => ?_)
        · have hlt : i < fs.length := lt_map g1
          have hlt2 : i < o.values.length := by omega
          rw [weighK_step hlt hlt2] at hr
          repeat refine And.intro rfl ?_
          refine ix_at (e := eB) (xs := o.values) (hlt2) rfl ?_
          repeat refine And.intro rfl ?_
          repeat refine And.intro rfl ?_
          refine Or.inl (Exists.intro _ (And.intro (s_l1Number _) ?_))
          repeat refine And.intro rfl ?_
          refine ix_at (e := GateField.e) (xs := fs) (hlt) rfl ?_
          repeat refine And.intro rfl ?_
          repeat refine And.intro rfl ?_
          refine And.intro (fun g2 => ?_) (fun g2 => ?_)
          · repeat refine And.intro rfl ?_
            refine ix_at (e := GateField.e) (xs := fs) (hlt) rfl ?_
            repeat refine And.intro rfl ?_
            repeat refine And.intro rfl ?_
            refine And.intro (fun g3 => ?_) (fun g3 => ?_)
            · have hc : (fs[i].kind == 1 && fs[i].weighs == r) = true := by rw [g2]; exact g3
              rw [hc, cond_true] at hr
              repeat refine And.intro rfl ?_
              refine And.intro (fun g4 => ?_) (fun g4 => ?_)
              · rw [num_pos g4] at hr
                repeat refine And.intro rfl ?_
                refine ⟨_, _, _, ⟨i + 1, wadd n (numF o.values[i]), rfl, hlt, ⟨hr, wadd_in _ _⟩, rfl, rfl⟩, by omega, rfl, rfl, ?_, ?_, ?_⟩
                all_goals (repeat' first | exact rfl | exact trivial | exact nd (wrap_succ hlt hs) | refine And.intro ?_ ?_)
              · rw [num_not g4, wadd_zero hwn] at hr
                repeat refine And.intro rfl ?_
                refine ⟨_, _, _, ⟨i + 1, n, rfl, hlt, ⟨hr, hwn⟩, rfl, rfl⟩, by omega, rfl, rfl, ?_, ?_, ?_⟩
                all_goals (repeat' first | exact rfl | exact trivial | exact nd (wrap_succ hlt hs) | refine And.intro ?_ ?_)
            · have hc : (fs[i].kind == 1 && fs[i].weighs == r) = false := by rw [g2]; exact g3
              rw [hc, cond_false] at hr
              repeat refine And.intro rfl ?_
              refine ⟨_, _, _, ⟨i + 1, n, rfl, hlt, ⟨hr, hwn⟩, rfl, rfl⟩, by omega, rfl, rfl, ?_, ?_, ?_⟩
              all_goals (repeat' first | exact rfl | exact trivial | exact nd (wrap_succ hlt hs) | refine And.intro ?_ ?_)
          · have hc : (fs[i].kind == 1 && fs[i].weighs == r) = false := by rw [g2]; rfl
            rw [hc, cond_false] at hr
            repeat refine And.intro rfl ?_
            refine ⟨_, _, _, ⟨i + 1, n, rfl, hlt, ⟨hr, hwn⟩, rfl, rfl⟩, by omega, rfl, rfl, ?_, ?_, ?_⟩
            all_goals (repeat' first | exact rfl | exact trivial | exact nd (wrap_succ hlt hs) | refine And.intro ?_ ?_)
        · refine nd ?_
          rw [hr, weighK_end (ge_map g1)]
      · rw [h2, cond_false]
        repeat refine And.intro rfl ?_
        refine ⟨fun m l h => ∃ (i : Nat) (n : Int), m = fs.length - i ∧ i ≤ fs.length ∧ (weighK r fs o.values 0 = weighK r (fs.drop i) (o.values.drop i) n ∧ IntKind.i64.wrap n = n) ∧ l = [(2, .d (.str r)), (4, .ptr 1 0), (7, .d (lGateField fs)), (9, .d (.int .i64 n)), (10, .d (.int .i64 i))] ∧ h = ⟨[(1, .cells 145 (o.e.map .d)), (0, .cells 43 (L.e.map .d))], 2, 0⟩,
          ⟨_, _, _, ⟨0, _, rfl, Nat.zero_le _, ⟨rfl, rfl⟩, rfl, rfl⟩, rfl, rfl, ⟨rfl, rfl, rfl, rfl, rfl, trivial⟩, (by repeat' first|exact rfl|exact trivial|refine And.intro ?_ ?_), (by repeat' first|exact rfl|exact trivial|refine And.intro ?_ ?_)⟩, ?_⟩
        rintro m l hh ⟨i, n, rfl, hi, hr, rfl, rfl⟩
        obtain ⟨hr, hwn⟩ := hr
        have hs : fs.length ≤ big := by omega
        repeat refine And.intro rfl ?_
        refine And.intro (fun g1 => ?_) (fun g1 => ?_)
        · have hlt : i < fs.length := lt_map g1
          have hlt2 : i < o.values.length := by omega
          rw [weighK_step hlt hlt2] at hr
          repeat refine And.intro rfl ?_
          refine ix_at (e := eB) (xs := o.values) (hlt2) rfl ?_
          repeat refine And.intro rfl ?_
          repeat refine And.intro rfl ?_
          refine Or.inl (Exists.intro _ (And.intro (s_l1Number _) ?_))
          repeat refine And.intro rfl ?_
          refine ix_at (e := GateField.e) (xs := fs) (hlt) rfl ?_
          repeat refine And.intro rfl ?_
          repeat refine And.intro rfl ?_
          refine And.intro (fun g2 => ?_) (fun g2 => ?_)
          · repeat refine And.intro rfl ?_
            refine ix_at (e := GateField.e) (xs := fs) (hlt) rfl ?_
            repeat refine And.intro rfl ?_
            repeat refine And.intro rfl ?_
            refine And.intro (fun g3 => ?_) (fun g3 => ?_)
            · have hc : (fs[i].kind == 1 && fs[i].weighs == r) = true := by rw [g2]; exact g3
              rw [hc, cond_true] at hr
              repeat refine And.intro rfl ?_
              refine And.intro (fun g4 => ?_) (fun g4 => ?_)
              · rw [num_pos g4] at hr
                repeat refine And.intro rfl ?_
                refine ⟨_, _, _, ⟨i + 1, wadd n (numF o.values[i]), rfl, hlt, ⟨hr, wadd_in _ _⟩, rfl, rfl⟩, by omega, rfl, rfl, ?_, ?_, ?_⟩
                all_goals (repeat' first | exact rfl | exact trivial | exact nd (wrap_succ hlt hs) | refine And.intro ?_ ?_)
              · rw [num_not g4, wadd_zero hwn] at hr
                repeat refine And.intro rfl ?_
                refine ⟨_, _, _, ⟨i + 1, n, rfl, hlt, ⟨hr, hwn⟩, rfl, rfl⟩, by omega, rfl, rfl, ?_, ?_, ?_⟩
                all_goals (repeat' first | exact rfl | exact trivial | exact nd (wrap_succ hlt hs) | refine And.intro ?_ ?_)
            · have hc : (fs[i].kind == 1 && fs[i].weighs == r) = false := by rw [g2]; exact g3
              rw [hc, cond_false] at hr
              repeat refine And.intro rfl ?_
              refine ⟨_, _, _, ⟨i + 1, n, rfl, hlt, ⟨hr, hwn⟩, rfl, rfl⟩, by omega, rfl, rfl, ?_, ?_, ?_⟩
              all_goals (repeat' first | exact rfl | exact trivial | exact nd (wrap_succ hlt hs) | refine And.intro ?_ ?_)
          · have hc : (fs[i].kind == 1 && fs[i].weighs == r) = false := by rw [g2]; rfl
            rw [hc, cond_false] at hr
            repeat refine And.intro rfl ?_
            refine ⟨_, _, _, ⟨i + 1, n, rfl, hlt, ⟨hr, hwn⟩, rfl, rfl⟩, by omega, rfl, rfl, ?_, ?_, ?_⟩
            all_goals (repeat' first | exact rfl | exact trivial | exact nd (wrap_succ hlt hs) | refine And.intro ?_ ?_)
        · refine nd ?_
          rw [hr, weighK_end (ge_map g1)]
  · refine nd ?_
    simp only [weighF, h0, Bool.true_or, cond_true]
def usedK (L : GateLaw) (t r : Bs) : List GateObject → Int → Int
  | [], n => n
  | o :: os, n => usedK L t r os (bif under L.teams o.team t then wadd n (weighF L o r) else n)
def usedF (L : GateLaw) (b : GateBook) (t r : Bs) : Int := usedK L t r b.objects 0
theorem usedK_step {L : GateLaw} {t r : Bs} {os : List GateObject} {i : Nat} {n : Int} (h : i < os.length) : usedK L t r (os.drop i) n = usedK L t r (os.drop (i + 1)) (bif under L.teams os[i].team t then wadd n (weighF L os[i] r) else n) := by
  rw [List.drop_eq_getElem_cons h]; rfl
theorem usedK_end {L : GateLaw} {t r : Bs} {os : List GateObject} {i : Nat} {n : Int} (h : os.length ≤ i) : usedK L t r (os.drop i) n = n := by
  rw [List.drop_of_length_le h]; rfl
theorem i_GateUsed (L : GateLaw) (b : GateBook) (t r : Bs) : Spec P 130 [st L.e, st b.e, .d (.str t), .d (.str r)] (.d (.int .i64 (usedF L b t r))) := by
  refine Spec.of_vc vcT vcM [.tmp 8] Tryz.func130 rfl rfl rfl rfl (fun hok => ?_)
  have hs := (ok_book (okAs_head hok.2)).1
  repeat refine And.intro rfl ?_
  repeat refine And.intro rfl ?_
  refine ⟨fun m l h => ∃ (i : Nat) (n : Int), m = b.objects.length - i ∧ i ≤ b.objects.length ∧ (usedF L b t r = usedK L t r (b.objects.drop i) n) ∧ l = [(2, .d (.str t)), (3, .d (.str r)), (4, .ptr 0 0), (5, .ptr 1 0), (9, .d (.int .i64 n)), (13, .d (lGateObject b.objects)), (14, .d (.int .i64 (b.objects.map GateObject.e).length)), (15, .d (.int .i64 i))] ∧ h = ⟨[(1, .cells 50 (b.e.map .d)), (0, .cells 43 (L.e.map .d))], 2, 0⟩,
    ⟨_, _, _, ⟨0, _, rfl, Nat.zero_le _, rfl, rfl, rfl⟩, rfl, rfl, ⟨rfl, rfl, rfl, rfl, rfl, rfl, rfl, rfl, trivial⟩, (by repeat' first|exact rfl|exact trivial|refine And.intro ?_ ?_), (by repeat' first|exact rfl|exact trivial|refine And.intro ?_ ?_)⟩, ?_⟩
  rintro m l hh ⟨i, n, rfl, hi, hr, rfl, rfl⟩
  repeat refine And.intro rfl ?_
  refine And.intro (fun g1 => ?_) (fun g1 => ?_)
  · have hlt : i < b.objects.length := lt_map g1
    rw [usedK_step hlt] at hr
    skip
    repeat refine And.intro rfl ?_
    refine ix_at (e := GateObject.e) (xs := b.objects) (hlt) rfl ?_
    repeat refine And.intro rfl ?_
    repeat refine And.intro rfl ?_
    refine Or.inl (Exists.intro _ (And.intro (i_GateUnder _ _ _) ?_))
    repeat refine And.intro rfl ?_
    refine And.intro (fun g2 => ?_) (fun g2 => ?_)
    · rw [g2, cond_true] at hr
      skip
      skip
      repeat refine And.intro rfl ?_
      refine Or.inl (Exists.intro _ (And.intro (i_GateWeighs _ _ _) ?_))
      repeat refine And.intro rfl ?_
      refine ⟨_, _, _, ⟨i + 1, wadd n (weighF L b.objects[i] r), rfl, hlt, hr, rfl, rfl⟩, by omega, rfl, rfl, ?_, ?_, ?_⟩
      all_goals (repeat' first | exact rfl | exact trivial | exact nd (wrap_succ hlt hs) | refine And.intro ?_ ?_)
    · rw [g2, cond_false] at hr
      repeat refine And.intro rfl ?_
      refine ⟨_, _, _, ⟨i + 1, n, rfl, hlt, hr, rfl, rfl⟩, by omega, rfl, rfl, ?_, ?_, ?_⟩
      all_goals (repeat' first | exact rfl | exact trivial | exact nd (wrap_succ hlt hs) | refine And.intro ?_ ?_)
  · refine nd ?_
    rw [hr, usedK_end (ge_map g1)]
theorem s_GateUsed (L : GateLaw) (b : GateBook) (t r : Bs) : Spec P 116 [st L.e, st b.e, .d (.str t), .d (.str r)] (.d (.int .i64 (usedF L b t r))) := by
  refine Spec.of_vc vcT vcM [.tmp 8] Tryz.func116 rfl rfl rfl rfl (fun hok => ?_)
  have hs := (ok_book (okAs_head hok.2)).1
  repeat refine And.intro rfl ?_
  repeat refine And.intro rfl ?_
  refine ⟨fun m l h => ∃ (i : Nat) (n : Int), m = b.objects.length - i ∧ i ≤ b.objects.length ∧ (usedF L b t r = usedK L t r (b.objects.drop i) n) ∧ l = [(2, .d (.str t)), (3, .d (.str r)), (4, .ptr 0 0), (5, .ptr 1 0), (9, .d (.int .i64 n)), (10, .d (.int .i64 i))] ∧ h = ⟨[(1, .cells 50 (b.e.map .d)), (0, .cells 43 (L.e.map .d))], 2, 0⟩,
    ⟨_, _, _, ⟨0, _, rfl, Nat.zero_le _, rfl, rfl, rfl⟩, rfl, rfl, ⟨rfl, rfl, rfl, rfl, rfl, rfl, trivial⟩, (by repeat' first|exact rfl|exact trivial|refine And.intro ?_ ?_), (by repeat' first|exact rfl|exact trivial|refine And.intro ?_ ?_)⟩, ?_⟩
  rintro m l hh ⟨i, n, rfl, hi, hr, rfl, rfl⟩
  repeat refine And.intro rfl ?_
  refine And.intro (fun g1 => ?_) (fun g1 => ?_)
  · have hlt : i < b.objects.length := lt_map g1
    rw [usedK_step hlt] at hr
    repeat refine And.intro rfl ?_
    refine And.intro (by kernel_rfl) ?_
    repeat refine And.intro rfl ?_
    repeat refine And.intro rfl ?_
    refine ix_at (e := GateObject.e) (xs := b.objects) (hlt) rfl ?_
    repeat refine And.intro rfl ?_
    repeat refine And.intro rfl ?_
    refine Or.inl (Exists.intro _ (And.intro (s_GateUnder _ _ _) ?_))
    repeat refine And.intro rfl ?_
    refine And.intro (fun g2 => ?_) (fun g2 => ?_)
    · rw [g2, cond_true] at hr
      repeat refine And.intro rfl ?_
      refine And.intro (by kernel_rfl) ?_
      repeat refine And.intro rfl ?_
      repeat refine And.intro rfl ?_
      refine ix_at (e := GateObject.e) (xs := b.objects) (hlt) rfl ?_
      repeat refine And.intro rfl ?_
      repeat refine And.intro rfl ?_
      refine Or.inl (Exists.intro _ (And.intro (s_GateWeighs _ _ _) ?_))
      repeat refine And.intro rfl ?_
      refine ⟨_, _, _, ⟨i + 1, wadd n (weighF L b.objects[i] r), rfl, hlt, hr, rfl, rfl⟩, by omega, rfl, rfl, ?_, ?_, ?_⟩
      all_goals (repeat' first | exact rfl | exact trivial | exact nd (wrap_succ hlt hs) | refine And.intro ?_ ?_)
    · rw [g2, cond_false] at hr
      repeat refine And.intro rfl ?_
      refine ⟨_, _, _, ⟨i + 1, n, rfl, hlt, hr, rfl, rfl⟩, by omega, rfl, rfl, ?_, ?_, ?_⟩
      all_goals (repeat' first | exact rfl | exact trivial | exact nd (wrap_succ hlt hs) | refine And.intro ?_ ?_)
  · refine nd ?_
    rw [hr, usedK_end (ge_map g1)]
def outK (t r : Bs) : List GatePurse → Int → Int
  | [], n => n
  | p :: ps, n => outK t r ps (bif p.team == t && p.resource == r then wadd n p.amount else n)
def outF (b : GateBook) (t r : Bs) : Int := outK t r b.purses 0
theorem outK_step {t r : Bs} {os : List GatePurse} {i : Nat} {n : Int} (h : i < os.length) : outK t r (os.drop i) n = outK t r (os.drop (i + 1)) (bif os[i].team == t && os[i].resource == r then wadd n os[i].amount else n) := by
  rw [List.drop_eq_getElem_cons h]; rfl
theorem outK_end {t r : Bs} {os : List GatePurse} {i : Nat} {n : Int} (h : os.length ≤ i) : outK t r (os.drop i) n = n := by
  rw [List.drop_of_length_le h]; rfl
theorem s_l5Out (b : GateBook) (t r : Bs) : Spec P 117 [st b.e, .d (.str t), .d (.str r)] (.d (.int .i64 (outF b t r))) := by
  refine Spec.of_vc vcT vcM [.tmp 6] Tryz.func117 rfl rfl rfl rfl (fun hok => ?_)
  have hs := (ok_book (okAs_head hok)).2.2.2
  repeat refine And.intro rfl ?_
  repeat refine And.intro rfl ?_
  refine ⟨fun m l h => ∃ (i : Nat) (n : Int), m = b.purses.length - i ∧ i ≤ b.purses.length ∧ (outF b t r = outK t r (b.purses.drop i) n) ∧ l = [(1, .d (.str t)), (2, .d (.str r)), (3, .ptr 0 0), (7, .d (.int .i64 n)), (8, .d (.int .i64 i))] ∧ h = ⟨[(0, .cells 50 (b.e.map .d))], 1, 0⟩,
    ⟨_, _, _, ⟨0, _, rfl, Nat.zero_le _, rfl, rfl, rfl⟩, rfl, rfl, ⟨rfl, rfl, rfl, rfl, rfl, trivial⟩, ⟨rfl, trivial⟩, ⟨rfl, trivial⟩⟩, ?_⟩
  rintro m l hh ⟨i, n, rfl, hi, hr, rfl, rfl⟩
  repeat refine And.intro rfl ?_
  refine And.intro (fun g1 => ?_) (fun g1 => ?_)
  · have hlt : i < b.purses.length := lt_map g1
    rw [outK_step hlt] at hr
    repeat refine And.intro rfl ?_
    refine ix_at (e := GatePurse.e) (xs := b.purses) (hlt) rfl ?_
    repeat refine And.intro rfl ?_
    repeat refine And.intro rfl ?_
    refine And.intro (fun g2 => ?_) (fun g2 => ?_)
    · repeat refine And.intro rfl ?_
      refine ix_at (e := GatePurse.e) (xs := b.purses) (hlt) rfl ?_
      repeat refine And.intro rfl ?_
      repeat refine And.intro rfl ?_
      refine And.intro (fun g3 => ?_) (fun g3 => ?_)
      · rw [g2, show (b.purses[i].resource == r) = true from g3, Bool.and_true, cond_true] at hr
        repeat refine And.intro rfl ?_
        refine ix_at (e := GatePurse.e) (xs := b.purses) (hlt) rfl ?_
        repeat refine And.intro rfl ?_
        repeat refine And.intro rfl ?_
        refine ⟨_, _, _, ⟨i + 1, wadd n b.purses[i].amount, rfl, hlt, hr, rfl, rfl⟩, by omega, rfl, rfl, ?_, ?_, ?_⟩
        all_goals (repeat' first | exact rfl | exact trivial | exact nd (wrap_succ hlt hs) | refine And.intro ?_ ?_)
      · rw [g2, show (b.purses[i].resource == r) = false from g3, Bool.and_false, cond_false] at hr
        repeat refine And.intro rfl ?_
        refine ⟨_, _, _, ⟨i + 1, n, rfl, hlt, hr, rfl, rfl⟩, by omega, rfl, rfl, ?_, ?_, ?_⟩
        all_goals (repeat' first | exact rfl | exact trivial | exact nd (wrap_succ hlt hs) | refine And.intro ?_ ?_)
    · rw [g2, Bool.false_and, cond_false] at hr
      repeat refine And.intro rfl ?_
      refine ⟨_, _, _, ⟨i + 1, n, rfl, hlt, hr, rfl, rfl⟩, by omega, rfl, rfl, ?_, ?_, ?_⟩
      all_goals (repeat' first | exact rfl | exact trivial | exact nd (wrap_succ hlt hs) | refine And.intro ?_ ?_)
  · refine nd ?_
    rw [hr, outK_end (ge_map g1)]
end Go.Vc
end

section
namespace Go.Vc
open Go.Proofs
set_option linter.unusedSimpArgs false
set_option linter.unusedVariables false
abbrev Acc := Bs × Bs
def keyA (k : Acc) : List D := [.str k.1, .str k.2]
def entA (e : Acc × Int) : List D × AV := (keyA e.1, .d (.int .i64 e.2))
def eqA (k k' : Acc) : Bool := k.1 == k'.1 && k.2 == k'.2
def putE : List (Acc × Int) → Acc → Int → List (Acc × Int)
  | [], k, v => [(k, v)]
  | (k', a) :: r, k, v => bif eqA k k' then (k', v) :: r else (k', a) :: putE r k v
def lookE : List (Acc × Int) → Acc → Option Int
  | [], _ => none
  | (k', a) :: r, k => bif eqA k k' then some a else lookE r k
def addE : List (Acc × Int) → Acc → Int → List (Acc × Int)
  | [], _, _ => []
  | (k', a) :: r, k, v => bif eqA k k' then (k', wadd a v) :: r else (k', a) :: addE r k v
theorem keyEq_A (k k' : Acc) : keyEq (keyA k) (keyA k') = eqA k k' := rfl
theorem mapPut_A (k : Acc) (v : Int) : ∀ en : List (Acc × Int), mapPut (en.map entA) (keyA k) (.d (.int .i64 v)) = (putE en k v).map entA
  | [] => rfl
  | (k', a) :: r => by
    simp only [List.map_cons, entA, mapPut, keyEq_A, putE]
    cases eqA k k' with
    | true => rfl
    | false =>
      simp only [cond_false, List.map_cons, entA, List.cons.injEq, true_and]
      exact mapPut_A k v r
theorem mapLook_A (k : Acc) : ∀ en : List (Acc × Int), mapLook (en.map entA) (keyA k) = (lookE en k).map fun v => .d (.int .i64 v)
  | [] => rfl
  | (k', a) :: r => by
    simp only [List.map_cons, entA, mapLook, keyEq_A, lookE]
    cases eqA k k' with
    | true => rfl
    | false => exact mapLook_A k r
theorem mapAt_A {k : Acc} {v : Int} : ∀ {en : List (Acc × Int)} {i : Nat}, lookE en k = some v → ∃ j, ∃ k' : Acc, mapAt (en.map entA) (keyA k) i = some (i + j, .d (.int .i64 v)) ∧ en[j]? = some (k', v) ∧ ∀ x, addE en k x = en.set j (k', wadd v x)
  | [], i, h => by cases h
  | (k', a) :: r, i, h => by
    simp only [List.map_cons, entA, mapAt, keyEq_A]
    simp only [lookE] at h
    cases he : eqA k k' with
    | true =>
      rw [he, cond_true] at h
      cases h
      exact ⟨0, k', rfl, rfl, fun x => by simp only [addE, he, cond_true, List.set_cons_zero]⟩
    | false =>
      rw [he, cond_false] at h
      obtain ⟨j, k2, h1, h2, h3⟩ := mapAt_A (i := i + 1) h
      exact ⟨j + 1, k2, by rw [h1, show i + 1 + j = i + (j + 1) from by omega], h2, fun x => by simp only [addE, he, cond_false, h3, List.set_cons_succ]⟩
theorem ltM_A (n : Nat) : ∀ en : List (Acc × Int), ltM n (en.map entA)
  | [] => trivial
  | e :: r => ⟨rfl, ltM_A n r⟩
theorem eqA_iff {k k' : Acc} : eqA k k' = true ↔ k = k' := by
  obtain ⟨a, b⟩ := k
  obtain ⟨c, d⟩ := k'
  simp [eqA]
theorem eqA_self (k : Acc) : eqA k k = true := eqA_iff.2 rfl
theorem eqA_ne {k k' : Acc} (h : k ≠ k') : eqA k k' = false := by
  cases e : eqA k k' with
  | false => rfl
  | true => exact absurd (eqA_iff.1 e) h
theorem look_put (k : Acc) (v : Int) : ∀ (en : List (Acc × Int)) (k' : Acc), lookE (putE en k v) k' = bif eqA k' k then some v else lookE en k'
  | [], k' => by simp only [putE, lookE]
  | (k2, a) :: r, k' => by
    simp only [putE]
    cases he : eqA k k2 with
    | true =>
      rw [cond_true]
      simp only [lookE]
      rw [eqA_iff.1 he]
      cases eqA k' k2 <;> rfl
    | false =>
      rw [cond_false]
      simp only [lookE]
      cases h2 : eqA k' k2 with
      | true =>
        rw [cond_true, cond_true]
        rw [eqA_iff.1 h2]
        have : eqA k2 k = false := by
          cases e : eqA k2 k with
          | false => rfl
          | true => rw [eqA_iff.1 e, eqA_self] at he; cases he
        rw [this]; rfl
      | false => rw [cond_false, cond_false]; exact look_put k v r k'
theorem look_add (k : Acc) (x : Int) : ∀ (en : List (Acc × Int)) (k' : Acc), lookE (addE en k x) k' = (lookE en k').map fun v => bif eqA k' k then wadd v x else v
  | [], k' => rfl
  | (k2, a) :: r, k' => by
    simp only [addE]
    cases he : eqA k k2 with
    | true =>
      rw [cond_true]
      simp only [lookE]
      have e := eqA_iff.1 he
      subst e
      cases h2 : eqA k' k with
      | true => rfl
      | false =>
        simp only [cond_false]
        cases lookE r k' <;> rfl
    | false =>
      rw [cond_false]
      simp only [lookE]
      cases h2 : eqA k' k2 with
      | true =>
        have e := eqA_iff.1 h2
        subst e
        have : eqA k' k = false := by
          cases e : eqA k' k with
          | false => rfl
          | true => rw [eqA_iff.1 e, eqA_self] at he; cases he
        simp [this]
      | false => rw [cond_false, cond_false]; exact look_add k x r k'
/-! ### a book's accounts -/
def accL (g : GateLedger) : Acc := (g.team, g.resource)
def accP (p : GatePurse) : Acc := (p.team, p.resource)
def en1 (f : GateLedger → Int) (gs : List GateLedger) : List (Acc × Int) := gs.foldl (fun en g => putE en (accL g) (f g)) []
def en2 (en : List (Acc × Int)) (ps : List GatePurse) : List (Acc × Int) := ps.foldl (fun en p => addE en (accP p) p.amount) en
theorem en1_snoc (f : GateLedger → Int) (gs : List GateLedger) (g : GateLedger) : en1 f (gs ++ [g]) = putE (en1 f gs) (accL g) (f g) := by simp [en1]
theorem en2_snoc (en : List (Acc × Int)) (ps : List GatePurse) (p : GatePurse) : en2 en (ps ++ [p]) = addE (en2 en ps) (accP p) p.amount := by simp [en2]
theorem look_en2 (k : Acc) : ∀ (ps : List GatePurse) (en : List (Acc × Int)), lookE (en2 en ps) k = (lookE en k).map fun v => outK k.1 k.2 ps v
  | [], en => by simp [en2, outK]
  | p :: ps, en => by
    show lookE (en2 (addE en (accP p) p.amount) ps) k = _
    rw [look_en2 k ps, look_add]
    cases lookE en k with
    | none => rfl
    | some v =>
      simp only [Option.map_some, outK]
      congr 2
      have : eqA k (accP p) = (p.team == k.1 && p.resource == k.2) := by
        simp only [eqA, accP]
        rw [BEq.comm (a := k.1), BEq.comm (a := k.2)]
      rw [this]
def sumP (t r : Bs) : List GatePurse → Int
  | [] => 0
  | p :: ps => (bif p.team == t && p.resource == r then p.amount else 0) + sumP t r ps
theorem outK_sum (t r : Bs) : ∀ (ps : List GatePurse) (n : Int), IntKind.i64.wrap n = n → outK t r ps n = IntKind.i64.wrap (n + sumP t r ps)
  | [], n, h => by simp only [outK, sumP, Int.add_zero, h]
  | p :: ps, n, h => by
    simp only [outK, sumP]
    cases p.team == t && p.resource == r with
    | false => rw [cond_false, cond_false, outK_sum t r ps n h, Int.zero_add]
    | true =>
      rw [cond_true, cond_true, outK_sum t r ps _ (wadd_in _ _)]
      unfold wadd
      simp only [IntKind.wrap_i64]
      omega
theorem out_split (t r : Bs) (ps : List GatePurse) (a b : Int) : outK t r ps (wadd a b) = wadd (wadd b (outK t r ps 0)) a := by
  rw [outK_sum t r ps _ (wadd_in _ _), outK_sum t r ps 0 rfl]
  unfold wadd
  simp only [IntKind.wrap_i64]
  omega
theorem ltTwo_irr (a b : Bs) : ltTwo a b a b = false := by simp [ltTwo, bl_irr]
theorem ltTwo_trans {a b c d e f : Bs} (h : ltTwo a b c d = true) (k : ltTwo c d e f = true) : ltTwo a b e f = true := by
  simp only [ltTwo, Bool.or_eq_true, Bool.and_eq_true, beq_iff_eq] at h k ⊢
  rcases h with h | ⟨rfl, h⟩
  · rcases k with k | ⟨rfl, k⟩
    · exact .inl (bl_trans h k)
    · exact .inl h
  · rcases k with k | ⟨rfl, k⟩
    · exact .inl k
    · exact .inr ⟨rfl, bl_trans h k⟩
def prevL (p : Option GateLedger) (g : GateLedger) : Bool := match p with | some q => ltTwo q.team q.resource g.team g.resource | none => true
/-- ledgers in ascending order: each account stands once -/
theorem asc_after : ∀ {gs : List GateLedger} {q : GateLedger}, chainK prevL (some q) gs = true → ∀ g ∈ gs, ltTwo q.team q.resource g.team g.resource = true
  | [], _, _, g, h => by cases h
  | x :: gs, q, hc, g, h => by
    simp only [chainK, prevL, Bool.and_eq_true] at hc
    rcases List.mem_cons.1 h with rfl | h
    · exact hc.1
    · exact ltTwo_trans hc.1 (asc_after hc.2 g h)
theorem en1_keep (f : GateLedger → Int) (k : Acc) : ∀ (gs : List GateLedger) (en : List (Acc × Int)), (∀ g ∈ gs, accL g ≠ k) → lookE (gs.foldl (fun en g => putE en (accL g) (f g)) en) k = lookE en k
  | [], en, _ => rfl
  | g :: gs, en, h => by
    rw [List.foldl_cons, en1_keep f k gs _ (fun x hx => h x (List.mem_cons_of_mem _ hx)), look_put, eqA_ne (fun e => h g List.mem_cons_self e.symm)]
    rfl
theorem en1_look (f : GateLedger → Int) : ∀ {gs : List GateLedger} {p : Option GateLedger} (en : List (Acc × Int)), chainK prevL p gs = true → ∀ g ∈ gs, lookE (gs.foldl (fun en g => putE en (accL g) (f g)) en) (accL g) = some (f g)
  | [], _, _, _, g, h => by cases h
  | x :: gs, p, en, hc, g, h => by
    simp only [chainK, Bool.and_eq_true] at hc
    rw [List.foldl_cons]
    rcases List.mem_cons.1 h with rfl | h
    · rw [en1_keep f (accL g) gs _ (fun y hy e => ?_), look_put, eqA_self]
      · rfl
      · have := asc_after hc.2 y hy
        simp only [accL, Prod.mk.injEq] at e
        rw [e.1, e.2, ltTwo_irr] at this
        cases this
    · exact en1_look f _ hc.2 g h
theorem chain_weaken {α : Type} {r r' : Option α → α → Bool} (h : ∀ p x, r p x = true → r' p x = true) : ∀ {xs : List α} {p : Option α}, chainK r p xs = true → chainK r' p xs = true
  | [], _, _ => rfl
  | x :: xs, p, hc => by
    simp only [chainK, Bool.and_eq_true] at hc ⊢
    exact ⟨h _ _ hc.1, chain_weaken h hc.2⟩
theorem chain_and {α : Type} {r : Option α → α → Bool} {q : α → Bool} : ∀ {xs : List α} {p : Option α}, chainK (fun p x => r p x && q x) p xs = (chainK r p xs && xs.all q)
  | [], _ => rfl
  | x :: xs, p => by
    simp only [chainK, List.all_cons, chain_and (xs := xs)]
    cases r p x <;> cases q x <;> simp
end Go.Vc
end
