/- Contracts: what a field's mends read (a closure), depth first (a closure that calls itself), rows of fields. -/
import Derived.Test.YtcakciamoopkcaaGreatGtX
namespace Go.Vc
open Go.Proofs
set_option maxRecDepth 100000
set_option pp.maxSteps 400
set_option pp.deepTerms false
set_option linter.unusedSimpArgs false
set_option linter.unusedVariables false
/-- texts that are gathered: nothing at first, then a row of the call's own -/
def rowAV (id : Nat) : List Bs → AV
  | [] => .nils
  | _ :: _ => .own id
def rowHp (objs : List (Nat × AO)) (nx id : Nat) : List Bs → Heap
  | [] => ⟨objs, nx, nx⟩
  | x :: xs => ⟨(id, .row 9 1 ((x :: xs).map eB)) :: objs, id + 1, nx⟩
def entW (p : Bs × Int) : List D × AV := ([.str p.1], .d (.int .i64 p.2))
def fnReads : AV := .fn 101 [.ptr 1 0, .ptr 0 0]
def fnWalk : AV := .fn 103 [.ptr 6 0, .ptr 4 0, .ptr 8 0, .ptr 7 0]
def oS (s : GateShape) : AO := .cells 93 (s.e.map .d)
def oM (ms : List GateMend) : AO := .cells 40 [.d (lGateMend ms)]
def oA (all : List Bs) : AO := .row 9 1 (all.map eB)
def oR : AO := .cells 157 [fnReads]
def oT (w : Wk) : AO := .map 158 .str (w.st.map entW)
def oP : AO := .cells 158 [.mapr 5]
def oW : AO := .cells 66 [fnWalk]
/-- the heap while one walks -/
def hWo (s : GateShape) (ms : List GateMend) (all : List Bs) (es : List (List D × AV)) : List Bs → List (Nat × AO)
  | [] => [(8, oW), (7, .cells 27 [.nils]), (6, oP), (5, .map 158 .str es), (4, oR), (1, oM ms), (0, oS s)]
  | x :: xs => [(9, .row 9 1 ((x :: xs).map eB)), (8, oW), (7, .cells 27 [.own 9]), (6, oP), (5, .map 158 .str es), (4, oR), (1, oM ms), (0, oS s)]
def hWn : List Bs → Nat
  | [] => 9
  | _ :: _ => 10
def hWr (lo : Nat) (s : GateShape) (ms : List GateMend) (all : List Bs) (es : List (List D × AV)) (out : List Bs) : Heap := ⟨hWo s ms all es out, hWn out, lo⟩
def hW (lo : Nat) (s : GateShape) (ms : List GateMend) (all : List Bs) (w : Wk) : Heap := hWr lo s ms all (w.st.map entW) w.out
theorem reads_step {k n : Bs} {ms : List GateMend} {i : Nat} (h : i < ms.length) : readsF k (ms.take (i + 1)) n = readsF k (ms.take i) n ++ rd1 k n ms[i] := by
  unfold readsF
  rw [List.take_succ_eq_append_getElem h, List.map_append, List.flatten_append]
  simp
theorem opt1_len (s : Bs) : (opt1 s).length ≤ 1 := by unfold opt1; cases s == [] <;> simp
theorem reads_len {k n : Bs} : ∀ {ms : List GateMend}, (readsF k ms n).length ≤ 2 * ms.length
  | [] => Nat.le_refl _
  | m :: ms => by
    have ih := reads_len (k := k) (n := n) (ms := ms)
    unfold readsF at ih ⊢
    simp only [List.map_cons, List.flatten_cons, List.length_append, List.length_cons]
    have : (rd1 k n m).length ≤ 2 := by
      have h1 := opt1_len m.when_
      have h2 := opt1_len m.from_
      unfold rd1
      cases (m.kind == k && m.field == n)
      · simp
      · simp only [cond_true, List.length_append]; omega
    omega
theorem ltM_ent {n : Nat} : ∀ {st : List (Bs × Int)}, ltM n (st.map entW)
  | [] => trivial
  | _ :: _ => ⟨rfl, ltM_ent⟩
theorem rd1_off {k n : Bs} {m : GateMend} (h : (m.kind == k) = false) : rd1 k n m = [] := by unfold rd1; rw [h]; rfl
theorem rd1_off2 {k n : Bs} {m : GateMend} (h : (m.field == n) = false) : rd1 k n m = [] := by unfold rd1; rw [h, Bool.and_false]; rfl
theorem rd1_on {k n : Bs} {m : GateMend} (h : (m.kind == k) = true) (h2 : (m.field == n) = true) : rd1 k n m = opt1 m.when_ ++ opt1 m.from_ := by unfold rd1; rw [h, h2]; rfl
theorem opt1_no {s : Bs} (h : (s == []) = true) : opt1 s = [] := by unfold opt1; rw [h]; rfl
theorem opt1_yes {s : Bs} (h : (s == []) = false) : opt1 s = [s] := by unfold opt1; rw [h]; rfl
theorem row_app1 (t n : Nat) (a : Bs) (r : List Bs) (w : Bs) : some (AO.row t n ((a :: r).map eB ++ [[.str w]])) = some (AO.row t n ((a :: (r ++ [w])).map eB)) := by simp [eB]
theorem row_app2 (t n : Nat) (a : Bs) (r : List Bs) (w f : Bs) : some (AO.row t n (((a :: r).map eB ++ [[.str w]]) ++ [[.str f]])) = some (AO.row t n ((a :: (r ++ [w, f])).map eB)) := by simp [eB]
theorem i_reads (lo : Nat) (s : GateShape) (ms : List GateMend) (hm : ms.length ≤ 12) (all : List Bs) (es : List (List D × AV)) (hes : ∀ n, ltM n es) (hsub : ∀ i b, subM i b es = es) (out : List Bs) (n : Bs) :
    HSpec P 101 [.d (.str n), .ptr 1 0, .ptr 0 0] (hWr lo s ms all es out) (.d (lS (readsF s.kind ms n))) (hWr lo s ms all es out) := by
  have hs : ms.length ≤ big := by unfold big; omega
  cases out with
  | nil =>
    refine HSpec.of_vc vcT vcM [.tmp 4] Tryz.func101 rfl rfl rfl rfl rfl (fun hok => ?_)
    repeat refine And.intro rfl ?_
    refine ⟨fun m l h => ∃ (i : Nat) (A : List Bs), m = ms.length - i ∧ i ≤ ms.length ∧ (A = readsF s.kind (ms.take i) n) ∧ l = [(0, .d (.str n)), (1, .ptr 1 0), (2, .ptr 0 0), (5, rowAV 10 A), (8, .d (lGateMend ms)), (9, .d (.int .i64 (ms.map GateMend.e).length)), (10, .d (.int .i64 i))] ∧ h = rowHp [(8, oW), (7, .cells 27 [.nils]), (6, oP), (5, .map 158 .str es), (4, oR), (1, oM ms), (0, oS s)] 9 10 A,
      ⟨_, _, _, ⟨0, _, rfl, Nat.zero_le _, rfl, rfl, rfl⟩, rfl, rfl, ⟨rfl, rfl, rfl, rfl, rfl, rfl, rfl, trivial⟩, ⟨rfl, rfl, rfl, ⟨rfl, hes _⟩, rfl, rfl, rfl, trivial⟩, ⟨rfl, rfl, rfl, rfl, rfl, rfl, rfl, trivial⟩⟩, ?_⟩
    rintro m l hh ⟨i, A, rfl, hi, hr, rfl, rfl⟩
    have hAl : A.length ≤ 24 := by
      have := reads_len (k := s.kind) (n := n) (ms := ms.take i)
      rw [← hr, List.length_take] at this
      omega
    repeat refine And.intro rfl ?_
    refine And.intro (fun h1 => ?_) (fun h1 => ?_)
    · have hlt : i < ms.length := lt_map h1
      repeat refine And.intro rfl ?_
      refine ix_at (e := GateMend.e) (xs := ms) (hlt) rfl ?_
      repeat refine And.intro rfl ?_
      cases A with
      | nil =>
        repeat refine And.intro rfl ?_
        refine And.intro (fun h2 => ?_) (fun h2 => ?_)
        · simp only [bne, Bool.not_eq_true', Bool.not_eq_false'] at h2
          repeat refine And.intro rfl ?_
          refine And.intro (fun h3 => ?_) (fun h3 => ?_)
          · simp only [bne, Bool.not_eq_true', Bool.not_eq_false'] at h3
            repeat refine And.intro rfl ?_
            refine ⟨_, _, _, ⟨i + 1, [], rfl, hlt, by rw [reads_step hlt, ← hr, rd1_off2 h3, List.append_nil], rfl, rfl⟩, by omega, rfl, rfl, ?_, ?_, ?_⟩
            all_goals (repeat' first | exact rfl | exact trivial | exact nd (wrap_succ hlt hs) | exact hes _ | refine And.intro ?_ ?_)
          · simp only [bne, Bool.not_eq_true', Bool.not_eq_false'] at h3
            have hstep := reads_step (k := s.kind) (n := n) hlt
            rw [rd1_on h2 h3, ← hr] at hstep
            repeat refine And.intro rfl ?_
            refine And.intro (fun h4 => ?_) (fun h4 => ?_)
            · simp only [bne, Bool.not_eq_true', Bool.not_eq_false'] at h4
              rw [opt1_yes h4] at hstep
              repeat refine And.intro rfl ?_
              refine And.intro (fun r hr => by rw [List.mem_singleton.1 hr]; rfl) ?_
              repeat refine And.intro rfl ?_
              refine And.intro (by simp only [  List.length_nil, List.length_cons, List.length_map] at *; unfold big; omega) ?_
              repeat refine And.intro rfl ?_
              refine And.intro (fun h5 => ?_) (fun h5 => ?_)
              · simp only [bne, Bool.not_eq_true', Bool.not_eq_false'] at h5
                rw [opt1_yes h5] at hstep
                repeat refine And.intro rfl ?_
                refine And.intro (fun r hr => by rw [List.mem_singleton.1 hr]; rfl) ?_
                repeat refine And.intro rfl ?_
                refine And.intro (by simp only [List.length_append, List.length_nil, List.length_cons, List.length_map] at *; unfold big; omega) ?_
                repeat refine And.intro rfl ?_
                refine ⟨_, _, _, ⟨i + 1, [ ms[i].when_, ms[i].from_], rfl, hlt, by rw [hstep]; rfl, rfl, rfl⟩, by omega, rfl, rfl, ?_, ?_, ?_⟩
                all_goals (repeat' first | exact rfl | exact trivial | exact nd (wrap_succ hlt hs) | exact hes _ | exact map_tab (hsub _ _) | exact map_tab (by rw [hsub, hsub]) | exact row_tab rfl | exact row_app1 _ _ _ _ _ | exact row_app2 _ _ _ _ _ _ | refine And.intro ?_ ?_)
              · simp only [bne, Bool.not_eq_true', Bool.not_eq_false'] at h5
                rw [opt1_no h5] at hstep
                repeat refine And.intro rfl ?_
                refine ⟨_, _, _, ⟨i + 1, [ ms[i].when_], rfl, hlt, by rw [hstep]; rfl, rfl, rfl⟩, by omega, rfl, rfl, ?_, ?_, ?_⟩
                all_goals (repeat' first | exact rfl | exact trivial | exact nd (wrap_succ hlt hs) | exact hes _ | exact map_tab (hsub _ _) | exact map_tab (by rw [hsub, hsub]) | exact row_tab rfl | exact row_app1 _ _ _ _ _ | exact row_app2 _ _ _ _ _ _ | refine And.intro ?_ ?_)
            · simp only [bne, Bool.not_eq_true', Bool.not_eq_false'] at h4
              rw [opt1_no h4] at hstep
              repeat refine And.intro rfl ?_
              refine And.intro (fun h5 => ?_) (fun h5 => ?_)
              · simp only [bne, Bool.not_eq_true', Bool.not_eq_false'] at h5
                rw [opt1_yes h5] at hstep
                repeat refine And.intro rfl ?_
                refine And.intro (fun r hr => by rw [List.mem_singleton.1 hr]; rfl) ?_
                repeat refine And.intro rfl ?_
                refine And.intro (by simp only [  List.length_nil, List.length_cons, List.length_map] at *; unfold big; omega) ?_
                repeat refine And.intro rfl ?_
                refine ⟨_, _, _, ⟨i + 1, [ ms[i].from_], rfl, hlt, by rw [hstep]; rfl, rfl, rfl⟩, by omega, rfl, rfl, ?_, ?_, ?_⟩
                all_goals (repeat' first | exact rfl | exact trivial | exact nd (wrap_succ hlt hs) | exact hes _ | exact map_tab (hsub _ _) | exact map_tab (by rw [hsub, hsub]) | exact row_tab rfl | exact row_app1 _ _ _ _ _ | exact row_app2 _ _ _ _ _ _ | refine And.intro ?_ ?_)
              · simp only [bne, Bool.not_eq_true', Bool.not_eq_false'] at h5
                rw [opt1_no h5] at hstep
                repeat refine And.intro rfl ?_
                refine ⟨_, _, _, ⟨i + 1, [], rfl, hlt, by rw [hstep]; simp, rfl, rfl⟩, by omega, rfl, rfl, ?_, ?_, ?_⟩
                all_goals (repeat' first | exact rfl | exact trivial | exact nd (wrap_succ hlt hs) | exact hes _ | refine And.intro ?_ ?_)
        · simp only [bne, Bool.not_eq_true', Bool.not_eq_false'] at h2
          repeat refine And.intro rfl ?_
          refine ⟨_, _, _, ⟨i + 1, [], rfl, hlt, by rw [reads_step hlt, ← hr, rd1_off h2, List.append_nil], rfl, rfl⟩, by omega, rfl, rfl, ?_, ?_, ?_⟩
          all_goals (repeat' first | exact rfl | exact trivial | exact nd (wrap_succ hlt hs) | exact hes _ | refine And.intro ?_ ?_)
      | cons a tl =>
        repeat refine And.intro rfl ?_
        refine And.intro (fun h2 => ?_) (fun h2 => ?_)
        · simp only [bne, Bool.not_eq_true', Bool.not_eq_false'] at h2
          repeat refine And.intro rfl ?_
          refine And.intro (fun h3 => ?_) (fun h3 => ?_)
          · simp only [bne, Bool.not_eq_true', Bool.not_eq_false'] at h3
            repeat refine And.intro rfl ?_
            refine ⟨_, _, _, ⟨i + 1, (a :: tl), rfl, hlt, by rw [reads_step hlt, ← hr, rd1_off2 h3, List.append_nil], rfl, rfl⟩, by omega, rfl, rfl, ?_, ?_, ?_⟩
            all_goals (repeat' first | exact rfl | exact trivial | exact nd (wrap_succ hlt hs) | exact hes _ | refine And.intro ?_ ?_)
          · simp only [bne, Bool.not_eq_true', Bool.not_eq_false'] at h3
            have hstep := reads_step (k := s.kind) (n := n) hlt
            rw [rd1_on h2 h3, ← hr] at hstep
            repeat refine And.intro rfl ?_
            refine And.intro (fun h4 => ?_) (fun h4 => ?_)
            · simp only [bne, Bool.not_eq_true', Bool.not_eq_false'] at h4
              rw [opt1_yes h4] at hstep
              repeat refine And.intro rfl ?_
              refine And.intro (fun r hr => by rw [List.mem_singleton.1 hr]; rfl) ?_
              repeat refine And.intro rfl ?_
              refine And.intro (by simp only [List.length_append, List.length_nil, List.length_cons, List.length_map] at *; unfold big; omega) ?_
              repeat refine And.intro rfl ?_
              refine And.intro (fun h5 => ?_) (fun h5 => ?_)
              · simp only [bne, Bool.not_eq_true', Bool.not_eq_false'] at h5
                rw [opt1_yes h5] at hstep
                repeat refine And.intro rfl ?_
                refine And.intro (fun r hr => by rw [List.mem_singleton.1 hr]; rfl) ?_
                repeat refine And.intro rfl ?_
                refine And.intro (by simp only [List.length_append, List.length_nil, List.length_cons, List.length_map] at *; unfold big; omega) ?_
                repeat refine And.intro rfl ?_
                refine ⟨_, _, _, ⟨i + 1, (a :: (tl ++ [ ms[i].when_, ms[i].from_] )), rfl, hlt, by rw [hstep]; rfl, rfl, rfl⟩, by omega, rfl, rfl, ?_, ?_, ?_⟩
                all_goals (repeat' first | exact rfl | exact trivial | exact nd (wrap_succ hlt hs) | exact hes _ | exact map_tab (hsub _ _) | exact map_tab (by rw [hsub, hsub]) | exact row_tab rfl | exact row_app1 _ _ _ _ _ | exact row_app2 _ _ _ _ _ _ | refine And.intro ?_ ?_)
              · simp only [bne, Bool.not_eq_true', Bool.not_eq_false'] at h5
                rw [opt1_no h5] at hstep
                repeat refine And.intro rfl ?_
                refine ⟨_, _, _, ⟨i + 1, (a :: (tl ++ [ ms[i].when_] )), rfl, hlt, by rw [hstep]; rfl, rfl, rfl⟩, by omega, rfl, rfl, ?_, ?_, ?_⟩
                all_goals (repeat' first | exact rfl | exact trivial | exact nd (wrap_succ hlt hs) | exact hes _ | exact map_tab (hsub _ _) | exact map_tab (by rw [hsub, hsub]) | exact row_tab rfl | exact row_app1 _ _ _ _ _ | exact row_app2 _ _ _ _ _ _ | refine And.intro ?_ ?_)
            · simp only [bne, Bool.not_eq_true', Bool.not_eq_false'] at h4
              rw [opt1_no h4] at hstep
              repeat refine And.intro rfl ?_
              refine And.intro (fun h5 => ?_) (fun h5 => ?_)
              · simp only [bne, Bool.not_eq_true', Bool.not_eq_false'] at h5
                rw [opt1_yes h5] at hstep
                repeat refine And.intro rfl ?_
                refine And.intro (fun r hr => by rw [List.mem_singleton.1 hr]; rfl) ?_
                repeat refine And.intro rfl ?_
                refine And.intro (by simp only [List.length_append, List.length_nil, List.length_cons, List.length_map] at *; unfold big; omega) ?_
                repeat refine And.intro rfl ?_
                refine ⟨_, _, _, ⟨i + 1, (a :: (tl ++ [ ms[i].from_] )), rfl, hlt, by rw [hstep]; rfl, rfl, rfl⟩, by omega, rfl, rfl, ?_, ?_, ?_⟩
                all_goals (repeat' first | exact rfl | exact trivial | exact nd (wrap_succ hlt hs) | exact hes _ | exact map_tab (hsub _ _) | exact map_tab (by rw [hsub, hsub]) | exact row_tab rfl | exact row_app1 _ _ _ _ _ | exact row_app2 _ _ _ _ _ _ | refine And.intro ?_ ?_)
              · simp only [bne, Bool.not_eq_true', Bool.not_eq_false'] at h5
                rw [opt1_no h5] at hstep
                repeat refine And.intro rfl ?_
                refine ⟨_, _, _, ⟨i + 1, (a :: tl), rfl, hlt, by rw [hstep]; simp, rfl, rfl⟩, by omega, rfl, rfl, ?_, ?_, ?_⟩
                all_goals (repeat' first | exact rfl | exact trivial | exact nd (wrap_succ hlt hs) | exact hes _ | refine And.intro ?_ ?_)
        · simp only [bne, Bool.not_eq_true', Bool.not_eq_false'] at h2
          repeat refine And.intro rfl ?_
          refine ⟨_, _, _, ⟨i + 1, (a :: tl), rfl, hlt, by rw [reads_step hlt, ← hr, rd1_off h2, List.append_nil], rfl, rfl⟩, by omega, rfl, rfl, ?_, ?_, ?_⟩
          all_goals (repeat' first | exact rfl | exact trivial | exact nd (wrap_succ hlt hs) | exact hes _ | refine And.intro ?_ ?_)
    · have ha : A = readsF s.kind ms n := by rw [hr, List.take_of_length_le (ge_map h1)]
      rw [← ha]
      cases A with
      | nil =>
        refine And.intro rfl (And.intro rfl ⟨rfl, rfl, ?_, ?_, ?_⟩)
        all_goals (repeat' first | exact rfl | exact trivial | exact hes _ | exact map_tab (hsub _ _) | refine And.intro ?_ ?_)
      | cons a tl =>
        refine And.intro rfl (And.intro rfl ⟨rfl, rfl, ?_, ?_, ?_⟩)
        all_goals (repeat' first | exact rfl | exact trivial | exact hes _ | exact map_tab (hsub _ _) | refine And.intro ?_ ?_)
  | cons x xs =>
    refine HSpec.of_vc vcT vcM [.tmp 4] Tryz.func101 rfl rfl rfl rfl rfl (fun hok => ?_)
    repeat refine And.intro rfl ?_
    refine ⟨fun m l h => ∃ (i : Nat) (A : List Bs), m = ms.length - i ∧ i ≤ ms.length ∧ (A = readsF s.kind (ms.take i) n) ∧ l = [(0, .d (.str n)), (1, .ptr 1 0), (2, .ptr 0 0), (5, rowAV 11 A), (8, .d (lGateMend ms)), (9, .d (.int .i64 (ms.map GateMend.e).length)), (10, .d (.int .i64 i))] ∧ h = rowHp [(9, .row 9 1 ((x :: xs).map eB)), (8, oW), (7, .cells 27 [.own 9]), (6, oP), (5, .map 158 .str es), (4, oR), (1, oM ms), (0, oS s)] 10 11 A,
      ⟨_, _, _, ⟨0, _, rfl, Nat.zero_le _, rfl, rfl, rfl⟩, rfl, rfl, ⟨rfl, rfl, rfl, rfl, rfl, rfl, rfl, trivial⟩, ⟨rfl, rfl, rfl, rfl, ⟨rfl, hes _⟩, rfl, rfl, rfl, trivial⟩, ⟨rfl, rfl, rfl, rfl, rfl, rfl, rfl, rfl, trivial⟩⟩, ?_⟩
    rintro m l hh ⟨i, A, rfl, hi, hr, rfl, rfl⟩
    have hAl : A.length ≤ 24 := by
      have := reads_len (k := s.kind) (n := n) (ms := ms.take i)
      rw [← hr, List.length_take] at this
      omega
    repeat refine And.intro rfl ?_
    refine And.intro (fun h1 => ?_) (fun h1 => ?_)
    · have hlt : i < ms.length := lt_map h1
      repeat refine And.intro rfl ?_
      refine ix_at (e := GateMend.e) (xs := ms) (hlt) rfl ?_
      repeat refine And.intro rfl ?_
      cases A with
      | nil =>
        repeat refine And.intro rfl ?_
        refine And.intro (fun h2 => ?_) (fun h2 => ?_)
        · simp only [bne, Bool.not_eq_true', Bool.not_eq_false'] at h2
          repeat refine And.intro rfl ?_
          refine And.intro (fun h3 => ?_) (fun h3 => ?_)
          · simp only [bne, Bool.not_eq_true', Bool.not_eq_false'] at h3
            repeat refine And.intro rfl ?_
            refine ⟨_, _, _, ⟨i + 1, [], rfl, hlt, by rw [reads_step hlt, ← hr, rd1_off2 h3, List.append_nil], rfl, rfl⟩, by omega, rfl, rfl, ?_, ?_, ?_⟩
            all_goals (repeat' first | exact rfl | exact trivial | exact nd (wrap_succ hlt hs) | exact hes _ | refine And.intro ?_ ?_)
          · simp only [bne, Bool.not_eq_true', Bool.not_eq_false'] at h3
            have hstep := reads_step (k := s.kind) (n := n) hlt
            rw [rd1_on h2 h3, ← hr] at hstep
            repeat refine And.intro rfl ?_
            refine And.intro (fun h4 => ?_) (fun h4 => ?_)
            · simp only [bne, Bool.not_eq_true', Bool.not_eq_false'] at h4
              rw [opt1_yes h4] at hstep
              repeat refine And.intro rfl ?_
              refine And.intro (fun r hr => by rw [List.mem_singleton.1 hr]; rfl) ?_
              repeat refine And.intro rfl ?_
              refine And.intro (by simp only [  List.length_nil, List.length_cons, List.length_map] at *; unfold big; omega) ?_
              repeat refine And.intro rfl ?_
              refine And.intro (fun h5 => ?_) (fun h5 => ?_)
              · simp only [bne, Bool.not_eq_true', Bool.not_eq_false'] at h5
                rw [opt1_yes h5] at hstep
                repeat refine And.intro rfl ?_
                refine And.intro (fun r hr => by rw [List.mem_singleton.1 hr]; rfl) ?_
                repeat refine And.intro rfl ?_
                refine And.intro (by simp only [List.length_append, List.length_nil, List.length_cons, List.length_map] at *; unfold big; omega) ?_
                repeat refine And.intro rfl ?_
                refine ⟨_, _, _, ⟨i + 1, [ ms[i].when_, ms[i].from_], rfl, hlt, by rw [hstep]; rfl, rfl, rfl⟩, by omega, rfl, rfl, ?_, ?_, ?_⟩
                all_goals (repeat' first | exact rfl | exact trivial | exact nd (wrap_succ hlt hs) | exact hes _ | exact map_tab (hsub _ _) | exact map_tab (by rw [hsub, hsub]) | exact row_tab rfl | exact row_app1 _ _ _ _ _ | exact row_app2 _ _ _ _ _ _ | refine And.intro ?_ ?_)
              · simp only [bne, Bool.not_eq_true', Bool.not_eq_false'] at h5
                rw [opt1_no h5] at hstep
                repeat refine And.intro rfl ?_
                refine ⟨_, _, _, ⟨i + 1, [ ms[i].when_], rfl, hlt, by rw [hstep]; rfl, rfl, rfl⟩, by omega, rfl, rfl, ?_, ?_, ?_⟩
                all_goals (repeat' first | exact rfl | exact trivial | exact nd (wrap_succ hlt hs) | exact hes _ | exact map_tab (hsub _ _) | exact map_tab (by rw [hsub, hsub]) | exact row_tab rfl | exact row_app1 _ _ _ _ _ | exact row_app2 _ _ _ _ _ _ | refine And.intro ?_ ?_)
            · simp only [bne, Bool.not_eq_true', Bool.not_eq_false'] at h4
              rw [opt1_no h4] at hstep
              repeat refine And.intro rfl ?_
              refine And.intro (fun h5 => ?_) (fun h5 => ?_)
              · simp only [bne, Bool.not_eq_true', Bool.not_eq_false'] at h5
                rw [opt1_yes h5] at hstep
                repeat refine And.intro rfl ?_
                refine And.intro (fun r hr => by rw [List.mem_singleton.1 hr]; rfl) ?_
                repeat refine And.intro rfl ?_
                refine And.intro (by simp only [  List.length_nil, List.length_cons, List.length_map] at *; unfold big; omega) ?_
                repeat refine And.intro rfl ?_
                refine ⟨_, _, _, ⟨i + 1, [ ms[i].from_], rfl, hlt, by rw [hstep]; rfl, rfl, rfl⟩, by omega, rfl, rfl, ?_, ?_, ?_⟩
                all_goals (repeat' first | exact rfl | exact trivial | exact nd (wrap_succ hlt hs) | exact hes _ | exact map_tab (hsub _ _) | exact map_tab (by rw [hsub, hsub]) | exact row_tab rfl | exact row_app1 _ _ _ _ _ | exact row_app2 _ _ _ _ _ _ | refine And.intro ?_ ?_)
              · simp only [bne, Bool.not_eq_true', Bool.not_eq_false'] at h5
                rw [opt1_no h5] at hstep
                repeat refine And.intro rfl ?_
                refine ⟨_, _, _, ⟨i + 1, [], rfl, hlt, by rw [hstep]; simp, rfl, rfl⟩, by omega, rfl, rfl, ?_, ?_, ?_⟩
                all_goals (repeat' first | exact rfl | exact trivial | exact nd (wrap_succ hlt hs) | exact hes _ | refine And.intro ?_ ?_)
        · simp only [bne, Bool.not_eq_true', Bool.not_eq_false'] at h2
          repeat refine And.intro rfl ?_
          refine ⟨_, _, _, ⟨i + 1, [], rfl, hlt, by rw [reads_step hlt, ← hr, rd1_off h2, List.append_nil], rfl, rfl⟩, by omega, rfl, rfl, ?_, ?_, ?_⟩
          all_goals (repeat' first | exact rfl | exact trivial | exact nd (wrap_succ hlt hs) | exact hes _ | refine And.intro ?_ ?_)
      | cons a tl =>
        repeat refine And.intro rfl ?_
        refine And.intro (fun h2 => ?_) (fun h2 => ?_)
        · simp only [bne, Bool.not_eq_true', Bool.not_eq_false'] at h2
          repeat refine And.intro rfl ?_
          refine And.intro (fun h3 => ?_) (fun h3 => ?_)
          · simp only [bne, Bool.not_eq_true', Bool.not_eq_false'] at h3
            repeat refine And.intro rfl ?_
            refine ⟨_, _, _, ⟨i + 1, (a :: tl), rfl, hlt, by rw [reads_step hlt, ← hr, rd1_off2 h3, List.append_nil], rfl, rfl⟩, by omega, rfl, rfl, ?_, ?_, ?_⟩
            all_goals (repeat' first | exact rfl | exact trivial | exact nd (wrap_succ hlt hs) | exact hes _ | refine And.intro ?_ ?_)
          · simp only [bne, Bool.not_eq_true', Bool.not_eq_false'] at h3
            have hstep := reads_step (k := s.kind) (n := n) hlt
            rw [rd1_on h2 h3, ← hr] at hstep
            repeat refine And.intro rfl ?_
            refine And.intro (fun h4 => ?_) (fun h4 => ?_)
            · simp only [bne, Bool.not_eq_true', Bool.not_eq_false'] at h4
              rw [opt1_yes h4] at hstep
              repeat refine And.intro rfl ?_
              refine And.intro (fun r hr => by rw [List.mem_singleton.1 hr]; rfl) ?_
              repeat refine And.intro rfl ?_
              refine And.intro (by simp only [List.length_append, List.length_nil, List.length_cons, List.length_map] at *; unfold big; omega) ?_
              repeat refine And.intro rfl ?_
              refine And.intro (fun h5 => ?_) (fun h5 => ?_)
              · simp only [bne, Bool.not_eq_true', Bool.not_eq_false'] at h5
                rw [opt1_yes h5] at hstep
                repeat refine And.intro rfl ?_
                refine And.intro (fun r hr => by rw [List.mem_singleton.1 hr]; rfl) ?_
                repeat refine And.intro rfl ?_
                refine And.intro (by simp only [List.length_append, List.length_nil, List.length_cons, List.length_map] at *; unfold big; omega) ?_
                repeat refine And.intro rfl ?_
                refine ⟨_, _, _, ⟨i + 1, (a :: (tl ++ [ ms[i].when_, ms[i].from_] )), rfl, hlt, by rw [hstep]; rfl, rfl, rfl⟩, by omega, rfl, rfl, ?_, ?_, ?_⟩
                all_goals (repeat' first | exact rfl | exact trivial | exact nd (wrap_succ hlt hs) | exact hes _ | exact map_tab (hsub _ _) | exact map_tab (by rw [hsub, hsub]) | exact row_tab rfl | exact row_app1 _ _ _ _ _ | exact row_app2 _ _ _ _ _ _ | refine And.intro ?_ ?_)
              · simp only [bne, Bool.not_eq_true', Bool.not_eq_false'] at h5
                rw [opt1_no h5] at hstep
                repeat refine And.intro rfl ?_
                refine ⟨_, _, _, ⟨i + 1, (a :: (tl ++ [ ms[i].when_] )), rfl, hlt, by rw [hstep]; rfl, rfl, rfl⟩, by omega, rfl, rfl, ?_, ?_, ?_⟩
                all_goals (repeat' first | exact rfl | exact trivial | exact nd (wrap_succ hlt hs) | exact hes _ | exact map_tab (hsub _ _) | exact map_tab (by rw [hsub, hsub]) | exact row_tab rfl | exact row_app1 _ _ _ _ _ | exact row_app2 _ _ _ _ _ _ | refine And.intro ?_ ?_)
            · simp only [bne, Bool.not_eq_true', Bool.not_eq_false'] at h4
              rw [opt1_no h4] at hstep
              repeat refine And.intro rfl ?_
              refine And.intro (fun h5 => ?_) (fun h5 => ?_)
              · simp only [bne, Bool.not_eq_true', Bool.not_eq_false'] at h5
                rw [opt1_yes h5] at hstep
                repeat refine And.intro rfl ?_
                refine And.intro (fun r hr => by rw [List.mem_singleton.1 hr]; rfl) ?_
                repeat refine And.intro rfl ?_
                refine And.intro (by simp only [List.length_append, List.length_nil, List.length_cons, List.length_map] at *; unfold big; omega) ?_
                repeat refine And.intro rfl ?_
                refine ⟨_, _, _, ⟨i + 1, (a :: (tl ++ [ ms[i].from_] )), rfl, hlt, by rw [hstep]; rfl, rfl, rfl⟩, by omega, rfl, rfl, ?_, ?_, ?_⟩
                all_goals (repeat' first | exact rfl | exact trivial | exact nd (wrap_succ hlt hs) | exact hes _ | exact map_tab (hsub _ _) | exact map_tab (by rw [hsub, hsub]) | exact row_tab rfl | exact row_app1 _ _ _ _ _ | exact row_app2 _ _ _ _ _ _ | refine And.intro ?_ ?_)
              · simp only [bne, Bool.not_eq_true', Bool.not_eq_false'] at h5
                rw [opt1_no h5] at hstep
                repeat refine And.intro rfl ?_
                refine ⟨_, _, _, ⟨i + 1, (a :: tl), rfl, hlt, by rw [hstep]; simp, rfl, rfl⟩, by omega, rfl, rfl, ?_, ?_, ?_⟩
                all_goals (repeat' first | exact rfl | exact trivial | exact nd (wrap_succ hlt hs) | exact hes _ | refine And.intro ?_ ?_)
        · simp only [bne, Bool.not_eq_true', Bool.not_eq_false'] at h2
          repeat refine And.intro rfl ?_
          refine ⟨_, _, _, ⟨i + 1, (a :: tl), rfl, hlt, by rw [reads_step hlt, ← hr, rd1_off h2, List.append_nil], rfl, rfl⟩, by omega, rfl, rfl, ?_, ?_, ?_⟩
          all_goals (repeat' first | exact rfl | exact trivial | exact nd (wrap_succ hlt hs) | exact hes _ | refine And.intro ?_ ?_)
    · have ha : A = readsF s.kind ms n := by rw [hr, List.take_of_length_le (ge_map h1)]
      rw [← ha]
      cases A with
      | nil =>
        refine And.intro rfl (And.intro rfl ⟨rfl, rfl, ?_, ?_, ?_⟩)
        all_goals (repeat' first | exact rfl | exact trivial | exact hes _ | exact map_tab (hsub _ _) | refine And.intro ?_ ?_)
      | cons a tl =>
        refine And.intro rfl (And.intro rfl ⟨rfl, rfl, ?_, ?_, ?_⟩)
        all_goals (repeat' first | exact rfl | exact trivial | exact hes _ | exact map_tab (hsub _ _) | refine And.intro ?_ ?_)
end Go.Vc
