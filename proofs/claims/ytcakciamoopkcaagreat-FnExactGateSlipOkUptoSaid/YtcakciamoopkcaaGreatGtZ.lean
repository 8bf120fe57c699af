/- Contracts: the walk depth first, a closure that calls itself. -/
import Derived.Test.YtcakciamoopkcaaGreatGtY
namespace Go.Vc
open Go.Proofs
set_option maxRecDepth 100000
set_option pp.maxSteps 400
set_option pp.deepTerms false
set_option linter.unusedSimpArgs false
set_option linter.unusedVariables false
theorem subM_ent {i : Nat} {b : AV} : ∀ {st : List (Bs × Int)}, subM i b (st.map entW) = st.map entW
  | [] => rfl
  | p :: st => by
    have ih := subM_ent (i := i) (b := b) (st := st)
    simp only [List.map_cons, subM, entW, ih, AV.sub]
theorem put_ent {x : Bs} {v : Int} : ∀ {st : List (Bs × Int)}, mapPut (st.map entW) [.str x] (.d (.int .i64 v)) = (pt st x v).map entW
  | [] => rfl
  | (k, u) :: st => by
    have ih := put_ent (x := x) (v := v) (st := st)
    simp only [List.map_cons, entW, mapPut, keyEq, pt, bs_comm x k]
    cases k == x with
    | true => rfl
    | false => simp only [cond_false, List.map_cons, entW]; exact congrArg _ ih
theorem look_ent {x : Bs} : ∀ (st : List (Bs × Int)), (mapLook (st.map entW) [.str x] = none ∧ lk st x = 0) ∨ mapLook (st.map entW) [.str x] = some (.d (.int .i64 (lk st x)))
  | [] => .inl ⟨rfl, rfl⟩
  | (k, u) :: st => by
    simp only [List.map_cons, entW, mapLook, keyEq, lk, bs_comm x k]
    cases k == x with
    | true => exact .inr rfl
    | false => exact look_ent st
theorem put_tab {t : Nat} {tk : TK} {x : Bs} {v : Int} {st : List (Bs × Int)} : some (AO.map t tk (mapPut (st.map entW) [.str x] (.d (.int .i64 v)))) = some (AO.map t tk ((pt st x v).map entW)) := by rw [put_ent]
theorem put_tab2 {t : Nat} {tk : TK} {x : Bs} {v : Int} {st : List (Bs × Int)} {i : Nat} {b : AV} : some (AO.map t tk (subM i b (mapPut (st.map entW) [.str x] (.d (.int .i64 v))))) = some (AO.map t tk ((pt st x v).map entW)) := by rw [put_ent, subM_ent]
theorem i_walk (s : GateShape) (ms : List GateMend) (hm : ms.length ≤ 12) (all N : List Bs) (hN : N.length ≤ big) (hin : ∀ n ∈ N, ∀ y ∈ readsF s.kind ms n, y ∈ N) :
    ∀ (k lo : Nat) (x : Bs) (w : Wk), x ∈ N → WkOk (readsF s.kind ms) N w → white N w < k →
    HSpec P 103 [.d (.str x), .ptr 6 0, .ptr 4 0, .ptr 8 0, .ptr 7 0] (hW lo s ms all w) (.d (.bool (walk (readsF s.kind ms) k x w).1)) (hW lo s ms all (walk (readsF s.kind ms) k x w).2)
  | 0, _, _, _, _, _, h => by omega
  | k + 1, lo, x, w, hx, hwk, hk => by
    obtain ⟨st, out⟩ := w
    generalize hq : walk (readsF s.kind ms) (k + 1) x ⟨st, out⟩ = q
    obtain ⟨b, w2⟩ := q
    show HSpec P _ _ _ (.d (.bool b)) (hW lo s ms all w2)
    cases out with
    | nil =>
      refine HSpec.of_vc vcT vcM [.tmp 6] Tryz.func103 rfl rfl rfl rfl rfl (fun hok => ?_)
      repeat refine And.intro rfl ?_
      rcases look_ent (x := x) st with ⟨e0, e1⟩ | e1
      · refine ⟨_, e0, ?_⟩
        repeat refine And.intro rfl ?_
        refine And.intro (fun g1 => ?_) (fun g1 => ?_)
        · have g1' : (lk st x == 1) = true := by first | exact g1 | (rw [e1]; exact g1)
          rw [walk_one g1'] at hq
          obtain ⟨rfl, rfl⟩ := Prod.mk.inj hq
          refine And.intro rfl (And.intro rfl ⟨rfl, rfl, ?_, ?_, ?_⟩)
          all_goals (repeat' first | exact rfl | exact trivial | exact ltM_ent | refine And.intro ?_ ?_)
        · have g1' : (lk st x == 1) = false := by first | exact g1 | (rw [e1]; exact g1)
          repeat refine And.intro rfl ?_
          refine And.intro (fun g2 => ?_) (fun g2 => ?_)
          · have g2' : (lk st x == 2) = true := by first | exact g2 | (rw [e1]; exact g2)
            rw [walk_two g1' g2'] at hq
            obtain ⟨rfl, rfl⟩ := Prod.mk.inj hq
            refine And.intro rfl (And.intro rfl ⟨rfl, rfl, ?_, ?_, ?_⟩)
            all_goals (repeat' first | exact rfl | exact trivial | exact ltM_ent | refine And.intro ?_ ?_)
          · have g2' : (lk st x == 2) = false := by first | exact g2 | (rw [e1]; exact g2)
            repeat refine And.intro rfl ?_
            refine Or.inr (Or.inl (Exists.intro _ (Exists.intro _ (And.intro (i_reads _ s ms hm all (mapPut (st.map entW) [.str x] (.d (.int .i64 1))) (fun n => by rw [put_ent]; exact ltM_ent) (fun i b => by rw [put_ent]; exact subM_ent) [] x) ?_))))
            have hs : (readsF s.kind ms x).length ≤ big := by
              have := reads_len (k := s.kind) (n := x) (ms := ms)
              unfold big; omega
            repeat refine And.intro rfl ?_
            refine ⟨fun m l h => ∃ (i : Nat) (u : Wk), m = (readsF s.kind ms x).length - i ∧ i ≤ (readsF s.kind ms x).length ∧ (walkL (walk (readsF s.kind ms) k) (readsF s.kind ms x) ⟨pt st x 1, []⟩ = walkL (walk (readsF s.kind ms) k) ((readsF s.kind ms x).drop i) u ∧ WkIn (readsF s.kind ms) N x ⟨st, []⟩ u ∧ ∃ t, u.out = [] ++ t) ∧ l = [(0, .d (.str x)), (1, .ptr 6 0), (2, .ptr 4 0), (3, .ptr 8 0), (4, .ptr 7 0), (20, .d (lS (readsF s.kind ms x))), (21, .d (.int .i64 ((readsF s.kind ms x).map eB).length)), (22, .d (.int .i64 i))] ∧ h = hW 9 s ms all u,
              ⟨_, _, _, ⟨0, _, rfl, Nat.zero_le _, ⟨rfl, wk_start hx hwk g1' g2', [], by simp⟩, rfl, rfl⟩, rfl, rfl, ⟨rfl, rfl, rfl, rfl, rfl, rfl, rfl, rfl, trivial⟩, (by repeat' first|exact rfl|exact trivial|exact ltM_ent|refine And.intro ?_ ?_), (by repeat' first|exact rfl|exact trivial|exact put_tab|refine And.intro ?_ ?_)⟩, ?_⟩
            rintro m l hh ⟨i, u, rfl, hi, hr, rfl, rfl⟩
            obtain ⟨hE, hI, hT⟩ := hr
            obtain ⟨st1, out1⟩ := u
            cases out1 with
            | nil =>
              repeat refine And.intro rfl ?_
              refine And.intro (fun h1 => ?_) (fun h1 => ?_)
              · have hlt : i < (readsF s.kind ms x).length := lt_map h1
                have hy : (readsF s.kind ms x)[i] ∈ N := hin x hx _ (List.getElem_mem hlt)
                have hc := i_walk s ms hm all N hN hin k 9 (readsF s.kind ms x)[i] ⟨st1, []⟩ hy hI.ok (by have := hI.white; omega)
                rw [walkL_drop hlt] at hE
                generalize hv : walk (readsF s.kind ms) k (readsF s.kind ms x)[i] ⟨st1, []⟩ = v at hc hE
                obtain ⟨b3, st3, out3⟩ := v
                have hO : ∃ t, out3 = [] ++ t := by
                  have := walk_out (readsF s.kind ms) k (readsF s.kind ms x)[i] ⟨st1, []⟩
                  rw [hv] at this; exact this
                have hT3 : ∃ t, out3 = [] ++ t := by
                  obtain ⟨t, ht⟩ := hT
                  obtain ⟨t2, ht2⟩ := hO
                  exact ⟨t ++ t2, by rw [ht2, ← List.append_assoc]; exact congrArg (· ++ t2) ht⟩
                repeat refine And.intro rfl ?_
                refine ix_atw (e := eB) (xs := (readsF s.kind ms x)) (hlt) (rfl) rfl ?_
                repeat refine And.intro rfl ?_
                cases out3 with
                | nil =>
                  cases b3 with
                  | false =>
                    refine Or.inr (Or.inl (Exists.intro _ (Exists.intro _ (And.intro hc ?_))))
                    repeat refine And.intro rfl ?_
                    refine And.intro (fun _ => ?_) (fun h => absurd h (by simp))
                    rw [walk_no g1' g2' hE] at hq
                    obtain ⟨rfl, rfl⟩ := Prod.mk.inj hq
                    refine And.intro rfl (And.intro rfl ⟨rfl, rfl, ?_, ?_, ?_⟩)
                    all_goals (repeat' first | exact rfl | exact trivial | exact ltM_ent | refine And.intro ?_ ?_)
                  | true =>
                    refine Or.inr (Or.inl (Exists.intro _ (Exists.intro _ (And.intro hc ?_))))
                    repeat refine And.intro rfl ?_
                    refine And.intro (fun h => absurd h (by simp)) (fun _ => ?_)
                    repeat refine And.intro rfl ?_
                    refine ⟨_, _, _, ⟨i + 1, ⟨st3, []⟩, rfl, hlt, ⟨hE, wk_next hin hI hk hy hv, hT3⟩, rfl, rfl⟩, by omega, rfl, rfl, ?_, ?_, ?_⟩
                    all_goals (repeat' first | exact rfl | exact trivial | exact nd (wrap_succ hlt hs) | exact ltM_ent | refine And.intro ?_ ?_)
                | cons z zs =>
                  cases b3 with
                  | false =>
                    refine Or.inr (Or.inl (Exists.intro _ (Exists.intro _ (And.intro hc ?_))))
                    repeat refine And.intro rfl ?_
                    refine And.intro (fun _ => ?_) (fun h => absurd h (by simp))
                    rw [walk_no g1' g2' hE] at hq
                    obtain ⟨rfl, rfl⟩ := Prod.mk.inj hq
                    refine And.intro rfl (And.intro rfl ⟨rfl, rfl, ?_, ?_, ?_⟩)
                    all_goals (repeat' first | exact rfl | exact trivial | exact ltM_ent | refine And.intro ?_ ?_)
                  | true =>
                    refine Or.inr (Or.inl (Exists.intro _ (Exists.intro _ (And.intro hc ?_))))
                    repeat refine And.intro rfl ?_
                    refine And.intro (fun h => absurd h (by simp)) (fun _ => ?_)
                    repeat refine And.intro rfl ?_
                    refine ⟨_, _, _, ⟨i + 1, ⟨st3, (z :: zs)⟩, rfl, hlt, ⟨hE, wk_next hin hI hk hy hv, hT3⟩, rfl, rfl⟩, by omega, rfl, rfl, ?_, ?_, ?_⟩
                    all_goals (repeat' first | exact rfl | exact trivial | exact nd (wrap_succ hlt hs) | exact ltM_ent | refine And.intro ?_ ?_)
              · rw [walkL_end (ge_map h1)] at hE
                rw [walk_yes g1' g2' hE] at hq
                obtain ⟨rfl, rfl⟩ := Prod.mk.inj hq
                have hroom := wk_room hx hI
                repeat refine And.intro rfl ?_
                repeat refine And.intro rfl ?_
                refine And.intro (fun r hr => by rw [List.mem_singleton.1 hr]; rfl) ?_
                repeat refine And.intro rfl ?_
                refine And.intro (by simp only [List.length_append, List.length_nil, List.length_cons, List.length_map] at *; unfold big at *; omega) ?_
                refine And.intro rfl (And.intro rfl ⟨rfl, rfl, ?_, ?_, ?_⟩)
                all_goals (repeat' first | exact rfl | exact trivial | exact ltM_ent | exact put_tab | exact put_tab2 | exact row_app1 _ _ _ _ _ | refine And.intro ?_ ?_)
            | cons y ys =>
              repeat refine And.intro rfl ?_
              refine And.intro (fun h1 => ?_) (fun h1 => ?_)
              · have hlt : i < (readsF s.kind ms x).length := lt_map h1
                have hy : (readsF s.kind ms x)[i] ∈ N := hin x hx _ (List.getElem_mem hlt)
                have hc := i_walk s ms hm all N hN hin k 9 (readsF s.kind ms x)[i] ⟨st1, (y :: ys)⟩ hy hI.ok (by have := hI.white; omega)
                rw [walkL_drop hlt] at hE
                generalize hv : walk (readsF s.kind ms) k (readsF s.kind ms x)[i] ⟨st1, (y :: ys)⟩ = v at hc hE
                obtain ⟨b3, st3, out3⟩ := v
                have hO : ∃ t, out3 = (y :: ys) ++ t := by
                  have := walk_out (readsF s.kind ms) k (readsF s.kind ms x)[i] ⟨st1, (y :: ys)⟩
                  rw [hv] at this; exact this
                have hT3 : ∃ t, out3 = [] ++ t := by
                  obtain ⟨t, ht⟩ := hT
                  obtain ⟨t2, ht2⟩ := hO
                  exact ⟨t ++ t2, by rw [ht2, ← List.append_assoc]; exact congrArg (· ++ t2) ht⟩
                repeat refine And.intro rfl ?_
                refine ix_atw (e := eB) (xs := (readsF s.kind ms x)) (hlt) (rfl) rfl ?_
                repeat refine And.intro rfl ?_
                cases out3 with
                | nil =>
                  obtain ⟨t, ht⟩ := hO
                  cases ht
                | cons z zs =>
                  cases b3 with
                  | false =>
                    refine Or.inr (Or.inl (Exists.intro _ (Exists.intro _ (And.intro hc ?_))))
                    repeat refine And.intro rfl ?_
                    refine And.intro (fun _ => ?_) (fun h => absurd h (by simp))
                    rw [walk_no g1' g2' hE] at hq
                    obtain ⟨rfl, rfl⟩ := Prod.mk.inj hq
                    refine And.intro rfl (And.intro rfl ⟨rfl, rfl, ?_, ?_, ?_⟩)
                    all_goals (repeat' first | exact rfl | exact trivial | exact ltM_ent | refine And.intro ?_ ?_)
                  | true =>
                    refine Or.inr (Or.inl (Exists.intro _ (Exists.intro _ (And.intro hc ?_))))
                    repeat refine And.intro rfl ?_
                    refine And.intro (fun h => absurd h (by simp)) (fun _ => ?_)
                    repeat refine And.intro rfl ?_
                    refine ⟨_, _, _, ⟨i + 1, ⟨st3, (z :: zs)⟩, rfl, hlt, ⟨hE, wk_next hin hI hk hy hv, hT3⟩, rfl, rfl⟩, by omega, rfl, rfl, ?_, ?_, ?_⟩
                    all_goals (repeat' first | exact rfl | exact trivial | exact nd (wrap_succ hlt hs) | exact ltM_ent | refine And.intro ?_ ?_)
              · rw [walkL_end (ge_map h1)] at hE
                rw [walk_yes g1' g2' hE] at hq
                obtain ⟨rfl, rfl⟩ := Prod.mk.inj hq
                have hroom := wk_room hx hI
                repeat refine And.intro rfl ?_
                repeat refine And.intro rfl ?_
                refine And.intro (fun r hr => by rw [List.mem_singleton.1 hr]; rfl) ?_
                repeat refine And.intro rfl ?_
                refine And.intro (by simp only [List.length_append, List.length_nil, List.length_cons, List.length_map] at *; unfold big at *; omega) ?_
                refine And.intro rfl (And.intro rfl ⟨rfl, rfl, ?_, ?_, ?_⟩)
                all_goals (repeat' first | exact rfl | exact trivial | exact ltM_ent | exact put_tab | exact put_tab2 | exact row_app1 _ _ _ _ _ | refine And.intro ?_ ?_)
      · refine ⟨_, e1, ?_⟩
        repeat refine And.intro rfl ?_
        refine And.intro (fun g1 => ?_) (fun g1 => ?_)
        · have g1' : (lk st x == 1) = true := by first | exact g1 | (rw [e1]; exact g1)
          rw [walk_one g1'] at hq
          obtain ⟨rfl, rfl⟩ := Prod.mk.inj hq
          refine And.intro rfl (And.intro rfl ⟨rfl, rfl, ?_, ?_, ?_⟩)
          all_goals (repeat' first | exact rfl | exact trivial | exact ltM_ent | refine And.intro ?_ ?_)
        · have g1' : (lk st x == 1) = false := by first | exact g1 | (rw [e1]; exact g1)
          repeat refine And.intro rfl ?_
          refine And.intro (fun g2 => ?_) (fun g2 => ?_)
          · have g2' : (lk st x == 2) = true := by first | exact g2 | (rw [e1]; exact g2)
            rw [walk_two g1' g2'] at hq
            obtain ⟨rfl, rfl⟩ := Prod.mk.inj hq
            refine And.intro rfl (And.intro rfl ⟨rfl, rfl, ?_, ?_, ?_⟩)
            all_goals (repeat' first | exact rfl | exact trivial | exact ltM_ent | refine And.intro ?_ ?_)
          · have g2' : (lk st x == 2) = false := by first | exact g2 | (rw [e1]; exact g2)
            repeat refine And.intro rfl ?_
            refine Or.inr (Or.inl (Exists.intro _ (Exists.intro _ (And.intro (i_reads _ s ms hm all (mapPut (st.map entW) [.str x] (.d (.int .i64 1))) (fun n => by rw [put_ent]; exact ltM_ent) (fun i b => by rw [put_ent]; exact subM_ent) [] x) ?_))))
            have hs : (readsF s.kind ms x).length ≤ big := by
              have := reads_len (k := s.kind) (n := x) (ms := ms)
              unfold big; omega
            repeat refine And.intro rfl ?_
            refine ⟨fun m l h => ∃ (i : Nat) (u : Wk), m = (readsF s.kind ms x).length - i ∧ i ≤ (readsF s.kind ms x).length ∧ (walkL (walk (readsF s.kind ms) k) (readsF s.kind ms x) ⟨pt st x 1, []⟩ = walkL (walk (readsF s.kind ms) k) ((readsF s.kind ms x).drop i) u ∧ WkIn (readsF s.kind ms) N x ⟨st, []⟩ u ∧ ∃ t, u.out = [] ++ t) ∧ l = [(0, .d (.str x)), (1, .ptr 6 0), (2, .ptr 4 0), (3, .ptr 8 0), (4, .ptr 7 0), (20, .d (lS (readsF s.kind ms x))), (21, .d (.int .i64 ((readsF s.kind ms x).map eB).length)), (22, .d (.int .i64 i))] ∧ h = hW 9 s ms all u,
              ⟨_, _, _, ⟨0, _, rfl, Nat.zero_le _, ⟨rfl, wk_start hx hwk g1' g2', [], by simp⟩, rfl, rfl⟩, rfl, rfl, ⟨rfl, rfl, rfl, rfl, rfl, rfl, rfl, rfl, trivial⟩, (by repeat' first|exact rfl|exact trivial|exact ltM_ent|refine And.intro ?_ ?_), (by repeat' first|exact rfl|exact trivial|exact put_tab|refine And.intro ?_ ?_)⟩, ?_⟩
            rintro m l hh ⟨i, u, rfl, hi, hr, rfl, rfl⟩
            obtain ⟨hE, hI, hT⟩ := hr
            obtain ⟨st1, out1⟩ := u
            cases out1 with
            | nil =>
              repeat refine And.intro rfl ?_
              refine And.intro (fun h1 => ?_) (fun h1 => ?_)
              · have hlt : i < (readsF s.kind ms x).length := lt_map h1
                have hy : (readsF s.kind ms x)[i] ∈ N := hin x hx _ (List.getElem_mem hlt)
                have hc := i_walk s ms hm all N hN hin k 9 (readsF s.kind ms x)[i] ⟨st1, []⟩ hy hI.ok (by have := hI.white; omega)
                rw [walkL_drop hlt] at hE
                generalize hv : walk (readsF s.kind ms) k (readsF s.kind ms x)[i] ⟨st1, []⟩ = v at hc hE
                obtain ⟨b3, st3, out3⟩ := v
                have hO : ∃ t, out3 = [] ++ t := by
                  have := walk_out (readsF s.kind ms) k (readsF s.kind ms x)[i] ⟨st1, []⟩
                  rw [hv] at this; exact this
                have hT3 : ∃ t, out3 = [] ++ t := by
                  obtain ⟨t, ht⟩ := hT
                  obtain ⟨t2, ht2⟩ := hO
                  exact ⟨t ++ t2, by rw [ht2, ← List.append_assoc]; exact congrArg (· ++ t2) ht⟩
                repeat refine And.intro rfl ?_
                refine ix_atw (e := eB) (xs := (readsF s.kind ms x)) (hlt) (rfl) rfl ?_
                repeat refine And.intro rfl ?_
                cases out3 with
                | nil =>
                  cases b3 with
                  | false =>
                    refine Or.inr (Or.inl (Exists.intro _ (Exists.intro _ (And.intro hc ?_))))
                    repeat refine And.intro rfl ?_
                    refine And.intro (fun _ => ?_) (fun h => absurd h (by simp))
                    rw [walk_no g1' g2' hE] at hq
                    obtain ⟨rfl, rfl⟩ := Prod.mk.inj hq
                    refine And.intro rfl (And.intro rfl ⟨rfl, rfl, ?_, ?_, ?_⟩)
                    all_goals (repeat' first | exact rfl | exact trivial | exact ltM_ent | refine And.intro ?_ ?_)
                  | true =>
                    refine Or.inr (Or.inl (Exists.intro _ (Exists.intro _ (And.intro hc ?_))))
                    repeat refine And.intro rfl ?_
                    refine And.intro (fun h => absurd h (by simp)) (fun _ => ?_)
                    repeat refine And.intro rfl ?_
                    refine ⟨_, _, _, ⟨i + 1, ⟨st3, []⟩, rfl, hlt, ⟨hE, wk_next hin hI hk hy hv, hT3⟩, rfl, rfl⟩, by omega, rfl, rfl, ?_, ?_, ?_⟩
                    all_goals (repeat' first | exact rfl | exact trivial | exact nd (wrap_succ hlt hs) | exact ltM_ent | refine And.intro ?_ ?_)
                | cons z zs =>
                  cases b3 with
                  | false =>
                    refine Or.inr (Or.inl (Exists.intro _ (Exists.intro _ (And.intro hc ?_))))
                    repeat refine And.intro rfl ?_
                    refine And.intro (fun _ => ?_) (fun h => absurd h (by simp))
                    rw [walk_no g1' g2' hE] at hq
                    obtain ⟨rfl, rfl⟩ := Prod.mk.inj hq
                    refine And.intro rfl (And.intro rfl ⟨rfl, rfl, ?_, ?_, ?_⟩)
                    all_goals (repeat' first | exact rfl | exact trivial | exact ltM_ent | refine And.intro ?_ ?_)
                  | true =>
                    refine Or.inr (Or.inl (Exists.intro _ (Exists.intro _ (And.intro hc ?_))))
                    repeat refine And.intro rfl ?_
                    refine And.intro (fun h => absurd h (by simp)) (fun _ => ?_)
                    repeat refine And.intro rfl ?_
                    refine ⟨_, _, _, ⟨i + 1, ⟨st3, (z :: zs)⟩, rfl, hlt, ⟨hE, wk_next hin hI hk hy hv, hT3⟩, rfl, rfl⟩, by omega, rfl, rfl, ?_, ?_, ?_⟩
                    all_goals (repeat' first | exact rfl | exact trivial | exact nd (wrap_succ hlt hs) | exact ltM_ent | refine And.intro ?_ ?_)
              · rw [walkL_end (ge_map h1)] at hE
                rw [walk_yes g1' g2' hE] at hq
                obtain ⟨rfl, rfl⟩ := Prod.mk.inj hq
                have hroom := wk_room hx hI
                repeat refine And.intro rfl ?_
                repeat refine And.intro rfl ?_
                refine And.intro (fun r hr => by rw [List.mem_singleton.1 hr]; rfl) ?_
                repeat refine And.intro rfl ?_
                refine And.intro (by simp only [List.length_append, List.length_nil, List.length_cons, List.length_map] at *; unfold big at *; omega) ?_
                refine And.intro rfl (And.intro rfl ⟨rfl, rfl, ?_, ?_, ?_⟩)
                all_goals (repeat' first | exact rfl | exact trivial | exact ltM_ent | exact put_tab | exact put_tab2 | exact row_app1 _ _ _ _ _ | refine And.intro ?_ ?_)
            | cons y ys =>
              repeat refine And.intro rfl ?_
              refine And.intro (fun h1 => ?_) (fun h1 => ?_)
              · have hlt : i < (readsF s.kind ms x).length := lt_map h1
                have hy : (readsF s.kind ms x)[i] ∈ N := hin x hx _ (List.getElem_mem hlt)
                have hc := i_walk s ms hm all N hN hin k 9 (readsF s.kind ms x)[i] ⟨st1, (y :: ys)⟩ hy hI.ok (by have := hI.white; omega)
                rw [walkL_drop hlt] at hE
                generalize hv : walk (readsF s.kind ms) k (readsF s.kind ms x)[i] ⟨st1, (y :: ys)⟩ = v at hc hE
                obtain ⟨b3, st3, out3⟩ := v
                have hO : ∃ t, out3 = (y :: ys) ++ t := by
                  have := walk_out (readsF s.kind ms) k (readsF s.kind ms x)[i] ⟨st1, (y :: ys)⟩
                  rw [hv] at this; exact this
                have hT3 : ∃ t, out3 = [] ++ t := by
                  obtain ⟨t, ht⟩ := hT
                  obtain ⟨t2, ht2⟩ := hO
                  exact ⟨t ++ t2, by rw [ht2, ← List.append_assoc]; exact congrArg (· ++ t2) ht⟩
                repeat refine And.intro rfl ?_
                refine ix_atw (e := eB) (xs := (readsF s.kind ms x)) (hlt) (rfl) rfl ?_
                repeat refine And.intro rfl ?_
                cases out3 with
                | nil =>
                  obtain ⟨t, ht⟩ := hO
                  cases ht
                | cons z zs =>
                  cases b3 with
                  | false =>
                    refine Or.inr (Or.inl (Exists.intro _ (Exists.intro _ (And.intro hc ?_))))
                    repeat refine And.intro rfl ?_
                    refine And.intro (fun _ => ?_) (fun h => absurd h (by simp))
                    rw [walk_no g1' g2' hE] at hq
                    obtain ⟨rfl, rfl⟩ := Prod.mk.inj hq
                    refine And.intro rfl (And.intro rfl ⟨rfl, rfl, ?_, ?_, ?_⟩)
                    all_goals (repeat' first | exact rfl | exact trivial | exact ltM_ent | refine And.intro ?_ ?_)
                  | true =>
                    refine Or.inr (Or.inl (Exists.intro _ (Exists.intro _ (And.intro hc ?_))))
                    repeat refine And.intro rfl ?_
                    refine And.intro (fun h => absurd h (by simp)) (fun _ => ?_)
                    repeat refine And.intro rfl ?_
                    refine ⟨_, _, _, ⟨i + 1, ⟨st3, (z :: zs)⟩, rfl, hlt, ⟨hE, wk_next hin hI hk hy hv, hT3⟩, rfl, rfl⟩, by omega, rfl, rfl, ?_, ?_, ?_⟩
                    all_goals (repeat' first | exact rfl | exact trivial | exact nd (wrap_succ hlt hs) | exact ltM_ent | refine And.intro ?_ ?_)
              · rw [walkL_end (ge_map h1)] at hE
                rw [walk_yes g1' g2' hE] at hq
                obtain ⟨rfl, rfl⟩ := Prod.mk.inj hq
                have hroom := wk_room hx hI
                repeat refine And.intro rfl ?_
                repeat refine And.intro rfl ?_
                refine And.intro (fun r hr => by rw [List.mem_singleton.1 hr]; rfl) ?_
                repeat refine And.intro rfl ?_
                refine And.intro (by simp only [List.length_append, List.length_nil, List.length_cons, List.length_map] at *; unfold big at *; omega) ?_
                refine And.intro rfl (And.intro rfl ⟨rfl, rfl, ?_, ?_, ?_⟩)
                all_goals (repeat' first | exact rfl | exact trivial | exact ltM_ent | exact put_tab | exact put_tab2 | exact row_app1 _ _ _ _ _ | refine And.intro ?_ ?_)
    | cons a tl =>
      refine HSpec.of_vc vcT vcM [.tmp 6] Tryz.func103 rfl rfl rfl rfl rfl (fun hok => ?_)
      repeat refine And.intro rfl ?_
      rcases look_ent (x := x) st with ⟨e0, e1⟩ | e1
      · refine ⟨_, e0, ?_⟩
        repeat refine And.intro rfl ?_
        refine And.intro (fun g1 => ?_) (fun g1 => ?_)
        · have g1' : (lk st x == 1) = true := by first | exact g1 | (rw [e1]; exact g1)
          rw [walk_one g1'] at hq
          obtain ⟨rfl, rfl⟩ := Prod.mk.inj hq
          refine And.intro rfl (And.intro rfl ⟨rfl, rfl, ?_, ?_, ?_⟩)
          all_goals (repeat' first | exact rfl | exact trivial | exact ltM_ent | refine And.intro ?_ ?_)
        · have g1' : (lk st x == 1) = false := by first | exact g1 | (rw [e1]; exact g1)
          repeat refine And.intro rfl ?_
          refine And.intro (fun g2 => ?_) (fun g2 => ?_)
          · have g2' : (lk st x == 2) = true := by first | exact g2 | (rw [e1]; exact g2)
            rw [walk_two g1' g2'] at hq
            obtain ⟨rfl, rfl⟩ := Prod.mk.inj hq
            refine And.intro rfl (And.intro rfl ⟨rfl, rfl, ?_, ?_, ?_⟩)
            all_goals (repeat' first | exact rfl | exact trivial | exact ltM_ent | refine And.intro ?_ ?_)
          · have g2' : (lk st x == 2) = false := by first | exact g2 | (rw [e1]; exact g2)
            repeat refine And.intro rfl ?_
            refine Or.inr (Or.inl (Exists.intro _ (Exists.intro _ (And.intro (i_reads _ s ms hm all (mapPut (st.map entW) [.str x] (.d (.int .i64 1))) (fun n => by rw [put_ent]; exact ltM_ent) (fun i b => by rw [put_ent]; exact subM_ent) (a :: tl) x) ?_))))
            have hs : (readsF s.kind ms x).length ≤ big := by
              have := reads_len (k := s.kind) (n := x) (ms := ms)
              unfold big; omega
            repeat refine And.intro rfl ?_
            refine ⟨fun m l h => ∃ (i : Nat) (u : Wk), m = (readsF s.kind ms x).length - i ∧ i ≤ (readsF s.kind ms x).length ∧ (walkL (walk (readsF s.kind ms) k) (readsF s.kind ms x) ⟨pt st x 1, (a :: tl)⟩ = walkL (walk (readsF s.kind ms) k) ((readsF s.kind ms x).drop i) u ∧ WkIn (readsF s.kind ms) N x ⟨st, (a :: tl)⟩ u ∧ ∃ t, u.out = (a :: tl) ++ t) ∧ l = [(0, .d (.str x)), (1, .ptr 6 0), (2, .ptr 4 0), (3, .ptr 8 0), (4, .ptr 7 0), (20, .d (lS (readsF s.kind ms x))), (21, .d (.int .i64 ((readsF s.kind ms x).map eB).length)), (22, .d (.int .i64 i))] ∧ h = hW 10 s ms all u,
              ⟨_, _, _, ⟨0, _, rfl, Nat.zero_le _, ⟨rfl, wk_start hx hwk g1' g2', [], by simp⟩, rfl, rfl⟩, rfl, rfl, ⟨rfl, rfl, rfl, rfl, rfl, rfl, rfl, rfl, trivial⟩, (by repeat' first|exact rfl|exact trivial|exact ltM_ent|refine And.intro ?_ ?_), (by repeat' first|exact rfl|exact trivial|exact put_tab|refine And.intro ?_ ?_)⟩, ?_⟩
            rintro m l hh ⟨i, u, rfl, hi, hr, rfl, rfl⟩
            obtain ⟨hE, hI, hT⟩ := hr
            obtain ⟨st1, out1⟩ := u
            cases out1 with
            | nil =>
              obtain ⟨t, ht⟩ := hT
              cases ht
            | cons y ys =>
              repeat refine And.intro rfl ?_
              refine And.intro (fun h1 => ?_) (fun h1 => ?_)
              · have hlt : i < (readsF s.kind ms x).length := lt_map h1
                have hy : (readsF s.kind ms x)[i] ∈ N := hin x hx _ (List.getElem_mem hlt)
                have hc := i_walk s ms hm all N hN hin k 10 (readsF s.kind ms x)[i] ⟨st1, (y :: ys)⟩ hy hI.ok (by have := hI.white; omega)
                rw [walkL_drop hlt] at hE
                generalize hv : walk (readsF s.kind ms) k (readsF s.kind ms x)[i] ⟨st1, (y :: ys)⟩ = v at hc hE
                obtain ⟨b3, st3, out3⟩ := v
                have hO : ∃ t, out3 = (y :: ys) ++ t := by
                  have := walk_out (readsF s.kind ms) k (readsF s.kind ms x)[i] ⟨st1, (y :: ys)⟩
                  rw [hv] at this; exact this
                have hT3 : ∃ t, out3 = (a :: tl) ++ t := by
                  obtain ⟨t, ht⟩ := hT
                  obtain ⟨t2, ht2⟩ := hO
                  exact ⟨t ++ t2, by rw [ht2, ← List.append_assoc]; exact congrArg (· ++ t2) ht⟩
                repeat refine And.intro rfl ?_
                refine ix_atw (e := eB) (xs := (readsF s.kind ms x)) (hlt) (rfl) rfl ?_
                repeat refine And.intro rfl ?_
                cases out3 with
                | nil =>
                  obtain ⟨t, ht⟩ := hO
                  cases ht
                | cons z zs =>
                  cases b3 with
                  | false =>
                    refine Or.inr (Or.inl (Exists.intro _ (Exists.intro _ (And.intro hc ?_))))
                    repeat refine And.intro rfl ?_
                    refine And.intro (fun _ => ?_) (fun h => absurd h (by simp))
                    rw [walk_no g1' g2' hE] at hq
                    obtain ⟨rfl, rfl⟩ := Prod.mk.inj hq
                    refine And.intro rfl (And.intro rfl ⟨rfl, rfl, ?_, ?_, ?_⟩)
                    all_goals (repeat' first | exact rfl | exact trivial | exact ltM_ent | refine And.intro ?_ ?_)
                  | true =>
                    refine Or.inr (Or.inl (Exists.intro _ (Exists.intro _ (And.intro hc ?_))))
                    repeat refine And.intro rfl ?_
                    refine And.intro (fun h => absurd h (by simp)) (fun _ => ?_)
                    repeat refine And.intro rfl ?_
                    refine ⟨_, _, _, ⟨i + 1, ⟨st3, (z :: zs)⟩, rfl, hlt, ⟨hE, wk_next hin hI hk hy hv, hT3⟩, rfl, rfl⟩, by omega, rfl, rfl, ?_, ?_, ?_⟩
                    all_goals (repeat' first | exact rfl | exact trivial | exact nd (wrap_succ hlt hs) | exact ltM_ent | refine And.intro ?_ ?_)
              · rw [walkL_end (ge_map h1)] at hE
                rw [walk_yes g1' g2' hE] at hq
                obtain ⟨rfl, rfl⟩ := Prod.mk.inj hq
                have hroom := wk_room hx hI
                repeat refine And.intro rfl ?_
                repeat refine And.intro rfl ?_
                refine And.intro (fun r hr => by rw [List.mem_singleton.1 hr]; rfl) ?_
                repeat refine And.intro rfl ?_
                refine And.intro (by simp only [List.length_append, List.length_nil, List.length_cons, List.length_map] at *; unfold big at *; omega) ?_
                refine And.intro rfl (And.intro rfl ⟨rfl, rfl, ?_, ?_, ?_⟩)
                all_goals (repeat' first | exact rfl | exact trivial | exact ltM_ent | exact put_tab | exact put_tab2 | exact row_app1 _ _ _ _ _ | refine And.intro ?_ ?_)
      · refine ⟨_, e1, ?_⟩
        repeat refine And.intro rfl ?_
        refine And.intro (fun g1 => ?_) (fun g1 => ?_)
        · have g1' : (lk st x == 1) = true := by first | exact g1 | (rw [e1]; exact g1)
          rw [walk_one g1'] at hq
          obtain ⟨rfl, rfl⟩ := Prod.mk.inj hq
          refine And.intro rfl (And.intro rfl ⟨rfl, rfl, ?_, ?_, ?_⟩)
          all_goals (repeat' first | exact rfl | exact trivial | exact ltM_ent | refine And.intro ?_ ?_)
        · have g1' : (lk st x == 1) = false := by first | exact g1 | (rw [e1]; exact g1)
          repeat refine And.intro rfl ?_
          refine And.intro (fun g2 => ?_) (fun g2 => ?_)
          · have g2' : (lk st x == 2) = true := by first | exact g2 | (rw [e1]; exact g2)
            rw [walk_two g1' g2'] at hq
            obtain ⟨rfl, rfl⟩ := Prod.mk.inj hq
            refine And.intro rfl (And.intro rfl ⟨rfl, rfl, ?_, ?_, ?_⟩)
            all_goals (repeat' first | exact rfl | exact trivial | exact ltM_ent | refine And.intro ?_ ?_)
          · have g2' : (lk st x == 2) = false := by first | exact g2 | (rw [e1]; exact g2)
            repeat refine And.intro rfl ?_
            refine Or.inr (Or.inl (Exists.intro _ (Exists.intro _ (And.intro (i_reads _ s ms hm all (mapPut (st.map entW) [.str x] (.d (.int .i64 1))) (fun n => by rw [put_ent]; exact ltM_ent) (fun i b => by rw [put_ent]; exact subM_ent) (a :: tl) x) ?_))))
            have hs : (readsF s.kind ms x).length ≤ big := by
              have := reads_len (k := s.kind) (n := x) (ms := ms)
              unfold big; omega
            repeat refine And.intro rfl ?_
            refine ⟨fun m l h => ∃ (i : Nat) (u : Wk), m = (readsF s.kind ms x).length - i ∧ i ≤ (readsF s.kind ms x).length ∧ (walkL (walk (readsF s.kind ms) k) (readsF s.kind ms x) ⟨pt st x 1, (a :: tl)⟩ = walkL (walk (readsF s.kind ms) k) ((readsF s.kind ms x).drop i) u ∧ WkIn (readsF s.kind ms) N x ⟨st, (a :: tl)⟩ u ∧ ∃ t, u.out = (a :: tl) ++ t) ∧ l = [(0, .d (.str x)), (1, .ptr 6 0), (2, .ptr 4 0), (3, .ptr 8 0), (4, .ptr 7 0), (20, .d (lS (readsF s.kind ms x))), (21, .d (.int .i64 ((readsF s.kind ms x).map eB).length)), (22, .d (.int .i64 i))] ∧ h = hW 10 s ms all u,
              ⟨_, _, _, ⟨0, _, rfl, Nat.zero_le _, ⟨rfl, wk_start hx hwk g1' g2', [], by simp⟩, rfl, rfl⟩, rfl, rfl, ⟨rfl, rfl, rfl, rfl, rfl, rfl, rfl, rfl, trivial⟩, (by repeat' first|exact rfl|exact trivial|exact ltM_ent|refine And.intro ?_ ?_), (by repeat' first|exact rfl|exact trivial|exact put_tab|refine And.intro ?_ ?_)⟩, ?_⟩
            rintro m l hh ⟨i, u, rfl, hi, hr, rfl, rfl⟩
            obtain ⟨hE, hI, hT⟩ := hr
            obtain ⟨st1, out1⟩ := u
            cases out1 with
            | nil =>
              obtain ⟨t, ht⟩ := hT
              cases ht
            | cons y ys =>
              repeat refine And.intro rfl ?_
              refine And.intro (fun h1 => ?_) (fun h1 => ?_)
              · have hlt : i < (readsF s.kind ms x).length := lt_map h1
                have hy : (readsF s.kind ms x)[i] ∈ N := hin x hx _ (List.getElem_mem hlt)
                have hc := i_walk s ms hm all N hN hin k 10 (readsF s.kind ms x)[i] ⟨st1, (y :: ys)⟩ hy hI.ok (by have := hI.white; omega)
                rw [walkL_drop hlt] at hE
                generalize hv : walk (readsF s.kind ms) k (readsF s.kind ms x)[i] ⟨st1, (y :: ys)⟩ = v at hc hE
                obtain ⟨b3, st3, out3⟩ := v
                have hO : ∃ t, out3 = (y :: ys) ++ t := by
                  have := walk_out (readsF s.kind ms) k (readsF s.kind ms x)[i] ⟨st1, (y :: ys)⟩
                  rw [hv] at this; exact this
                have hT3 : ∃ t, out3 = (a :: tl) ++ t := by
                  obtain ⟨t, ht⟩ := hT
                  obtain ⟨t2, ht2⟩ := hO
                  exact ⟨t ++ t2, by rw [ht2, ← List.append_assoc]; exact congrArg (· ++ t2) ht⟩
                repeat refine And.intro rfl ?_
                refine ix_atw (e := eB) (xs := (readsF s.kind ms x)) (hlt) (rfl) rfl ?_
                repeat refine And.intro rfl ?_
                cases out3 with
                | nil =>
                  obtain ⟨t, ht⟩ := hO
                  cases ht
                | cons z zs =>
                  cases b3 with
                  | false =>
                    refine Or.inr (Or.inl (Exists.intro _ (Exists.intro _ (And.intro hc ?_))))
                    repeat refine And.intro rfl ?_
                    refine And.intro (fun _ => ?_) (fun h => absurd h (by simp))
                    rw [walk_no g1' g2' hE] at hq
                    obtain ⟨rfl, rfl⟩ := Prod.mk.inj hq
                    refine And.intro rfl (And.intro rfl ⟨rfl, rfl, ?_, ?_, ?_⟩)
                    all_goals (repeat' first | exact rfl | exact trivial | exact ltM_ent | refine And.intro ?_ ?_)
                  | true =>
                    refine Or.inr (Or.inl (Exists.intro _ (Exists.intro _ (And.intro hc ?_))))
                    repeat refine And.intro rfl ?_
                    refine And.intro (fun h => absurd h (by simp)) (fun _ => ?_)
                    repeat refine And.intro rfl ?_
                    refine ⟨_, _, _, ⟨i + 1, ⟨st3, (z :: zs)⟩, rfl, hlt, ⟨hE, wk_next hin hI hk hy hv, hT3⟩, rfl, rfl⟩, by omega, rfl, rfl, ?_, ?_, ?_⟩
                    all_goals (repeat' first | exact rfl | exact trivial | exact nd (wrap_succ hlt hs) | exact ltM_ent | refine And.intro ?_ ?_)
              · rw [walkL_end (ge_map h1)] at hE
                rw [walk_yes g1' g2' hE] at hq
                obtain ⟨rfl, rfl⟩ := Prod.mk.inj hq
                have hroom := wk_room hx hI
                repeat refine And.intro rfl ?_
                repeat refine And.intro rfl ?_
                refine And.intro (fun r hr => by rw [List.mem_singleton.1 hr]; rfl) ?_
                repeat refine And.intro rfl ?_
                refine And.intro (by simp only [List.length_append, List.length_nil, List.length_cons, List.length_map] at *; unfold big at *; omega) ?_
                refine And.intro rfl (And.intro rfl ⟨rfl, rfl, ?_, ?_, ?_⟩)
                all_goals (repeat' first | exact rfl | exact trivial | exact ltM_ent | exact put_tab | exact put_tab2 | exact row_app1 _ _ _ _ _ | refine And.intro ?_ ?_)
end Go.Vc
