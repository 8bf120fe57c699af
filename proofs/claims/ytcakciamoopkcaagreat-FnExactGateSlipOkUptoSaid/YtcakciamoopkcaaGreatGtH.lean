/- Contracts: shapes. -/
import Derived.Test.YtcakciamoopkcaaGreatGtG
namespace Go.Vc
open Go.Proofs
set_option maxRecDepth 100000
set_option pp.maxSteps 400
set_option pp.deepTerms false
set_option linter.unusedSimpArgs false
set_option linter.unusedVariables false
/-! ### maps from texts -/
def ent (v : AV) (s : Bs) : List D × AV := ([.str s], v)
theorem bs_comm (a b : Bs) : (a == b) = (b == a) := by rw [Bool.eq_iff_iff, beq_iff_eq, beq_iff_eq]; exact eq_comm
theorem mapLook_none {v : AV} {s : Bs} : ∀ {pre : List Bs}, pre.any (· == s) = false → mapLook (pre.map (ent v)) [.str s] = none
  | [], _ => rfl
  | x :: pre, h => by
    simp only [List.any_cons, Bool.or_eq_false_iff] at h
    simp only [List.map_cons, ent, mapLook, keyEq, bs_comm s x, h.1]
    exact mapLook_none h.2
theorem mapLook_some {v : AV} {s : Bs} : ∀ {pre : List Bs}, pre.any (· == s) = true → mapLook (pre.map (ent v)) [.str s] = some v
  | [], h => by simp at h
  | x :: pre, h => by
    simp only [List.map_cons, ent, mapLook, keyEq, bs_comm s x]
    cases hx : (x == s) with
    | true => rfl
    | false => simp only [List.any_cons, hx, Bool.false_or] at h; exact mapLook_some h
theorem mapPut_none {v u : AV} {s : Bs} : ∀ {pre : List Bs}, pre.any (· == s) = false → mapPut (pre.map (ent v)) [.str s] u = pre.map (ent v) ++ [([.str s], u)]
  | [], _ => rfl
  | x :: pre, h => by
    simp only [List.any_cons, Bool.or_eq_false_iff] at h
    simp only [List.map_cons, ent, mapPut, keyEq, bs_comm s x, h.1, List.cons_append]
    rw [← mapPut_none (v := v) (u := u) h.2]
theorem mapLook_put {s : Bs} {u : AV} : ∀ {es : List (List D × AV)}, mapLook (mapPut es [.str s] u) [.str s] = some u
  | [] => by simp only [mapPut, mapLook, keyEq, BEq.rfl]
  | (k, a) :: es => by
    cases hk : keyEq [.str s] k with
    | true => simp only [mapPut, hk, mapLook]
    | false => simp only [mapPut, hk, mapLook, mapLook_put]
theorem map_tab {t : Nat} {tk : TK} {es es' : List (List D × AV)} (h : es = es') : some (AO.map t tk es) = some (AO.map t tk es') := by rw [h]
theorem ltM_pre {v : AV} {n : Nat} (hv : v.lt n = true) : ∀ {pre : List Bs}, ltM n (pre.map (ent v))
  | [] => trivial
  | _ :: _ => ⟨hv, ltM_pre hv⟩
theorem seen_next {kinds : List Bs} {fs : List GateField} {i : Nat} (h : i < fs.length) (hd : ((fs.take i).map (·.name)).any (· == fs[i].name) = false) :
    mapPut (((fs.take i).map (·.name)).map (ent (.d (.int .i64 1)))) [.str fs[i].name] (.d (.int .i64 (IntKind.i64.wrap (0 + 1)))) = ((fs.take (i + 1)).map (·.name)).map (ent (.d (.int .i64 1))) := by
  rw [mapPut_none hd, List.take_succ_eq_append_getElem h]
  simp only [List.map_append, List.map_cons, List.map_nil]
  rfl
theorem i_shapeOk (s : GateShape) (kinds : List Bs) : Spec P 96 [st s.e, .d (lS kinds)] (.d (.bool (shapeOkF kinds s))) := by
  refine Spec.of_vc vcT vcM [.tmp 4] Tryz.func96 rfl rfl rfl rfl (fun hok => ?_)
  have hs : s.fields.length ≤ big := by
    have := hok.1
    simp only [st, AV.ok, GateShape.e, List.map, okAs] at this
    exact len_map this.2.1.1
  repeat refine And.intro rfl ?_
  refine And.intro (fun h0 => ?_) (fun h0 => ?_)
  · refine bd ?_
    rw [List.length_map] at h0
    simp only [shapeOkF, h0]; rfl
  rw [List.length_map] at h0
  have e : shapeOkF kinds s = flds kinds [] s.fields := by simp only [shapeOkF, h0]; rfl
  rw [e]
  repeat refine And.intro rfl ?_
  refine ⟨fun m l h => ∃ (i : Nat) , m = s.fields.length - i ∧ i ≤ s.fields.length ∧ (flds kinds [] s.fields = flds kinds ((s.fields.take i).map (·.name)) (s.fields.drop i)) ∧ l = [(1, .d (lS kinds)), (5, .mapr 1), (16, .d (lGateField s.fields)), (17, .d (.int .i64 (s.fields.map GateField.e).length)), (18, .d (.int .i64 i))] ∧ h = ⟨[(1, .map 158 .str (((s.fields.take i).map (·.name)).map (ent (.d (.int .i64 1)))))], 2, 0⟩,
    ⟨_, _, _, ⟨0, rfl, Nat.zero_le _, rfl, rfl, rfl⟩, rfl, rfl, ⟨rfl, rfl, rfl, rfl, rfl, trivial⟩, ⟨⟨rfl, ltM_pre rfl⟩, trivial⟩, ⟨rfl, trivial⟩⟩, ?_⟩
  rintro m l hh ⟨i, rfl, hi, hr, rfl, rfl⟩
  repeat refine And.intro rfl ?_
  refine And.intro (fun h1 => ?_) (fun h1 => ?_)
  · have hlt : i < s.fields.length := lt_map h1
    rw [flds_step hlt] at hr
    repeat refine And.intro rfl ?_
    refine ix_at (e := GateField.e) (xs := s.fields) (hlt) rfl ?_
    repeat refine And.intro rfl ?_
    cases hd : ((s.fields.take i).map (·.name)).any (· == s.fields[i].name) with
    | true =>
      refine ⟨_, mapLook_some hd, ?_⟩
      repeat refine And.intro rfl ?_
      repeat refine And.intro rfl ?_
      refine Or.inl (Exists.intro _ (And.intro (i_isName _) ?_))
      repeat refine And.intro rfl ?_
      refine And.intro (fun h2 => ?_) (fun h2 => ?_)
      · repeat refine And.intro rfl ?_
        refine ⟨_, mapLook_put, ?_⟩
        refine And.intro (fun _ => ?_) (fun h => absurd h (by decide))
        refine bd ?_
        rw [hr, hd]; rfl
      · refine bd ?_
        rw [hr, hd]; rfl
    | false =>
      rw [hd] at hr
      refine ⟨_, mapLook_none hd, ?_⟩
      repeat refine And.intro rfl ?_
      repeat refine And.intro rfl ?_
      refine Or.inl (Exists.intro _ (And.intro (i_isName _) ?_))
      repeat refine And.intro rfl ?_
      refine And.intro (fun h2 => ?_) (fun h2 => ?_)
      · repeat refine And.intro rfl ?_
        refine ⟨_, mapLook_put, ?_⟩
        refine And.intro (fun h => absurd h (by decide)) (fun _ => ?_)
        simp only [Bool.not_eq_true', Bool.not_eq_false'] at h2
        cases h1 : s.fields[i].kind == 1
        · cases h2' : s.fields[i].kind == 2
          · cases h3 : s.fields[i].kind == 3
            · cases h4 : s.fields[i].kind == 4
              · repeat refine And.intro rfl ?_
                refine Or.inl (Exists.intro _ (And.intro (i_sortOf0 s.fields[i] h1 h2' h3 h4) ?_))
                repeat refine And.intro rfl ?_
                refine And.intro (fun h => absurd h (by simp)) (fun _ => ?_)
                refine bd ?_
                rw [hr, show fieldOkF kinds s.fields[i] = false from by simp only [fieldOkF, soundF, h1, h2', h3, h4, cond_false, Bool.and_false]]; rfl
              · repeat refine And.intro rfl ?_
                refine Or.inl (Exists.intro _ (And.intro (i_sortOf4 s.fields[i] (kind_is 4 h4)) ?_))
                repeat refine And.intro rfl ?_
                refine And.intro (fun _ => ?_) (fun h => absurd h (by simp))
                repeat refine And.intro rfl ?_
                refine Or.inl (Exists.intro _ (And.intro (i_lClean _) ?_))
                repeat refine And.intro rfl ?_
                refine And.intro (fun h5 => ?_) (fun h5 => ?_)
                · repeat refine And.intro rfl ?_
                  refine Or.inl (Exists.intro _ (And.intro (i_lSound _ _) ?_))
                  repeat refine And.intro rfl ?_
                  refine And.intro (fun h6 => ?_) (fun h6 => ?_)
                  · refine bd ?_
                    simp only [Bool.not_eq_true', Bool.not_eq_false'] at h5 h6
                    have e1 := bare4 (kind_is 4 h4)
                    have e2 : soundF kinds s.fields[i] = sound4 kinds s.fields[i] := by simp only [soundF, h1,h2',h3,h4, cond_true, cond_false]
                    rw [hr, show fieldOkF kinds s.fields[i] = false from by simp only [fieldOkF, e2, h6, Bool.and_false]]; rfl
                  · simp only [Bool.not_eq_true', Bool.not_eq_false'] at h5 h6
                    have e1 := bare4 (kind_is 4 h4)
                    have e2 : soundF kinds s.fields[i] = sound4 kinds s.fields[i] := by simp only [soundF, h1,h2',h3,h4, cond_true, cond_false]
                    repeat refine And.intro rfl ?_
                    refine And.intro (fun h7 => ?_) (fun h7 => ?_)
                    · repeat refine And.intro rfl ?_
                      refine Or.inl (Exists.intro _ (And.intro (i_GateFits _ _) ?_))
                      repeat refine And.intro rfl ?_
                      refine And.intro (fun h8 => ?_) (fun h8 => ?_)
                      · refine bd ?_
                        simp only [Bool.not_eq_true', Bool.not_eq_false'] at h7 h8
                        rw [hr, show fieldOkF kinds s.fields[i] = false from by simp only [fieldOkF, h7, h8, Bool.or_false, Bool.false_and, Bool.and_false]]; rfl
                      · simp only [Bool.not_eq_true', Bool.not_eq_false'] at h7 h8
                        repeat refine And.intro rfl ?_
                        exact ⟨_, _, _, ⟨i + 1, rfl, hlt, by rw [hr, show fieldOkF kinds s.fields[i] = true from by simp only [fieldOkF, h2, e1, e2, h5, h6, h8, Bool.or_true, Bool.true_and]]; rfl, rfl, rfl⟩, by omega, rfl, rfl, ⟨rfl, rfl, rfl, rfl, nd (wrap_succ hlt hs), trivial⟩, ⟨⟨rfl, ltM_pre rfl⟩, trivial⟩, ⟨map_tab (seen_next (kinds := kinds) hlt hd), trivial⟩⟩
                    · simp only [Bool.not_eq_true', Bool.not_eq_false'] at h7
                      repeat refine And.intro rfl ?_
                      exact ⟨_, _, _, ⟨i + 1, rfl, hlt, by rw [hr, show fieldOkF kinds s.fields[i] = true from by simp only [fieldOkF, h2, e1, e2, h5, h6, h7, Bool.true_or, Bool.true_and]]; rfl, rfl, rfl⟩, by omega, rfl, rfl, ⟨rfl, rfl, rfl, rfl, nd (wrap_succ hlt hs), trivial⟩, ⟨⟨rfl, ltM_pre rfl⟩, trivial⟩, ⟨map_tab (seen_next (kinds := kinds) hlt hd), trivial⟩⟩
                · refine bd ?_
                  simp only [Bool.not_eq_true', Bool.not_eq_false'] at h5
                  rw [hr, show fieldOkF kinds s.fields[i] = false from by simp only [fieldOkF, bare4 (kind_is 4 h4), h5, Bool.false_and, Bool.and_false]]; rfl
            · repeat refine And.intro rfl ?_
              refine Or.inl (Exists.intro _ (And.intro (i_sortOf3 s.fields[i] (kind_is 3 h3)) ?_))
              repeat refine And.intro rfl ?_
              refine And.intro (fun _ => ?_) (fun h => absurd h (by simp))
              repeat refine And.intro rfl ?_
              refine Or.inl (Exists.intro _ (And.intro (i_tClean _) ?_))
              repeat refine And.intro rfl ?_
              refine And.intro (fun h5 => ?_) (fun h5 => ?_)
              · repeat refine And.intro rfl ?_
                refine Or.inl (Exists.intro _ (And.intro (i_tSound _ _) ?_))
                repeat refine And.intro rfl ?_
                refine And.intro (fun h6 => ?_) (fun h6 => ?_)
                · refine bd ?_
                  simp only [Bool.not_eq_true', Bool.not_eq_false'] at h5 h6
                  have e1 := bare3 (kind_is 3 h3)
                  have e2 : soundF kinds s.fields[i] = sound3 s.fields[i] := by simp only [soundF, h1,h2',h3, cond_true, cond_false]
                  rw [hr, show fieldOkF kinds s.fields[i] = false from by simp only [fieldOkF, e2, h6, Bool.and_false]]; rfl
                · simp only [Bool.not_eq_true', Bool.not_eq_false'] at h5 h6
                  have e1 := bare3 (kind_is 3 h3)
                  have e2 : soundF kinds s.fields[i] = sound3 s.fields[i] := by simp only [soundF, h1,h2',h3, cond_true, cond_false]
                  repeat refine And.intro rfl ?_
                  refine And.intro (fun h7 => ?_) (fun h7 => ?_)
                  · repeat refine And.intro rfl ?_
                    refine Or.inl (Exists.intro _ (And.intro (i_GateFits _ _) ?_))
                    repeat refine And.intro rfl ?_
                    refine And.intro (fun h8 => ?_) (fun h8 => ?_)
                    · refine bd ?_
                      simp only [Bool.not_eq_true', Bool.not_eq_false'] at h7 h8
                      rw [hr, show fieldOkF kinds s.fields[i] = false from by simp only [fieldOkF, h7, h8, Bool.or_false, Bool.false_and, Bool.and_false]]; rfl
                    · simp only [Bool.not_eq_true', Bool.not_eq_false'] at h7 h8
                      repeat refine And.intro rfl ?_
                      exact ⟨_, _, _, ⟨i + 1, rfl, hlt, by rw [hr, show fieldOkF kinds s.fields[i] = true from by simp only [fieldOkF, h2, e1, e2, h5, h6, h8, Bool.or_true, Bool.true_and]]; rfl, rfl, rfl⟩, by omega, rfl, rfl, ⟨rfl, rfl, rfl, rfl, nd (wrap_succ hlt hs), trivial⟩, ⟨⟨rfl, ltM_pre rfl⟩, trivial⟩, ⟨map_tab (seen_next (kinds := kinds) hlt hd), trivial⟩⟩
                  · simp only [Bool.not_eq_true', Bool.not_eq_false'] at h7
                    repeat refine And.intro rfl ?_
                    exact ⟨_, _, _, ⟨i + 1, rfl, hlt, by rw [hr, show fieldOkF kinds s.fields[i] = true from by simp only [fieldOkF, h2, e1, e2, h5, h6, h7, Bool.true_or, Bool.true_and]]; rfl, rfl, rfl⟩, by omega, rfl, rfl, ⟨rfl, rfl, rfl, rfl, nd (wrap_succ hlt hs), trivial⟩, ⟨⟨rfl, ltM_pre rfl⟩, trivial⟩, ⟨map_tab (seen_next (kinds := kinds) hlt hd), trivial⟩⟩
              · refine bd ?_
                simp only [Bool.not_eq_true', Bool.not_eq_false'] at h5
                rw [hr, show fieldOkF kinds s.fields[i] = false from by simp only [fieldOkF, bare3 (kind_is 3 h3), h5, Bool.false_and, Bool.and_false]]; rfl
          · repeat refine And.intro rfl ?_
            refine Or.inl (Exists.intro _ (And.intro (i_sortOf2 s.fields[i] (kind_is 2 h2')) ?_))
            repeat refine And.intro rfl ?_
            refine And.intro (fun _ => ?_) (fun h => absurd h (by simp))
            repeat refine And.intro rfl ?_
            refine Or.inl (Exists.intro _ (And.intro (i_wClean _) ?_))
            repeat refine And.intro rfl ?_
            refine And.intro (fun h5 => ?_) (fun h5 => ?_)
            · repeat refine And.intro rfl ?_
              refine Or.inl (Exists.intro _ (And.intro (i_wSound _ _) ?_))
              repeat refine And.intro rfl ?_
              refine And.intro (fun h6 => ?_) (fun h6 => ?_)
              · refine bd ?_
                simp only [Bool.not_eq_true', Bool.not_eq_false'] at h5 h6
                have e1 := bare2 (kind_is 2 h2')
                have e2 : soundF kinds s.fields[i] = sound2 s.fields[i] := by simp only [soundF, h1,h2', cond_true, cond_false]
                rw [hr, show fieldOkF kinds s.fields[i] = false from by simp only [fieldOkF, e2, h6, Bool.and_false]]; rfl
              · simp only [Bool.not_eq_true', Bool.not_eq_false'] at h5 h6
                have e1 := bare2 (kind_is 2 h2')
                have e2 : soundF kinds s.fields[i] = sound2 s.fields[i] := by simp only [soundF, h1,h2', cond_true, cond_false]
                repeat refine And.intro rfl ?_
                refine And.intro (fun h7 => ?_) (fun h7 => ?_)
                · repeat refine And.intro rfl ?_
                  refine Or.inl (Exists.intro _ (And.intro (i_GateFits _ _) ?_))
                  repeat refine And.intro rfl ?_
                  refine And.intro (fun h8 => ?_) (fun h8 => ?_)
                  · refine bd ?_
                    simp only [Bool.not_eq_true', Bool.not_eq_false'] at h7 h8
                    rw [hr, show fieldOkF kinds s.fields[i] = false from by simp only [fieldOkF, h7, h8, Bool.or_false, Bool.false_and, Bool.and_false]]; rfl
                  · simp only [Bool.not_eq_true', Bool.not_eq_false'] at h7 h8
                    repeat refine And.intro rfl ?_
                    exact ⟨_, _, _, ⟨i + 1, rfl, hlt, by rw [hr, show fieldOkF kinds s.fields[i] = true from by simp only [fieldOkF, h2, e1, e2, h5, h6, h8, Bool.or_true, Bool.true_and]]; rfl, rfl, rfl⟩, by omega, rfl, rfl, ⟨rfl, rfl, rfl, rfl, nd (wrap_succ hlt hs), trivial⟩, ⟨⟨rfl, ltM_pre rfl⟩, trivial⟩, ⟨map_tab (seen_next (kinds := kinds) hlt hd), trivial⟩⟩
                · simp only [Bool.not_eq_true', Bool.not_eq_false'] at h7
                  repeat refine And.intro rfl ?_
                  exact ⟨_, _, _, ⟨i + 1, rfl, hlt, by rw [hr, show fieldOkF kinds s.fields[i] = true from by simp only [fieldOkF, h2, e1, e2, h5, h6, h7, Bool.true_or, Bool.true_and]]; rfl, rfl, rfl⟩, by omega, rfl, rfl, ⟨rfl, rfl, rfl, rfl, nd (wrap_succ hlt hs), trivial⟩, ⟨⟨rfl, ltM_pre rfl⟩, trivial⟩, ⟨map_tab (seen_next (kinds := kinds) hlt hd), trivial⟩⟩
            · refine bd ?_
              simp only [Bool.not_eq_true', Bool.not_eq_false'] at h5
              rw [hr, show fieldOkF kinds s.fields[i] = false from by simp only [fieldOkF, bare2 (kind_is 2 h2'), h5, Bool.false_and, Bool.and_false]]; rfl
        · repeat refine And.intro rfl ?_
          refine Or.inl (Exists.intro _ (And.intro (i_sortOf1 s.fields[i] (kind_is 1 h1)) ?_))
          repeat refine And.intro rfl ?_
          refine And.intro (fun _ => ?_) (fun h => absurd h (by simp))
          repeat refine And.intro rfl ?_
          refine Or.inl (Exists.intro _ (And.intro (i_nClean _) ?_))
          repeat refine And.intro rfl ?_
          refine And.intro (fun h5 => ?_) (fun h5 => ?_)
          · repeat refine And.intro rfl ?_
            refine Or.inl (Exists.intro _ (And.intro (i_nSound _ _) ?_))
            repeat refine And.intro rfl ?_
            refine And.intro (fun h6 => ?_) (fun h6 => ?_)
            · refine bd ?_
              simp only [Bool.not_eq_true', Bool.not_eq_false'] at h5 h6
              have e1 := bare1 (kind_is 1 h1)
              have e2 : soundF kinds s.fields[i] = sound1 s.fields[i] := by simp only [soundF, h1, cond_true, cond_false]
              rw [hr, show fieldOkF kinds s.fields[i] = false from by simp only [fieldOkF, e2, h6, Bool.and_false]]; rfl
            · simp only [Bool.not_eq_true', Bool.not_eq_false'] at h5 h6
              have e1 := bare1 (kind_is 1 h1)
              have e2 : soundF kinds s.fields[i] = sound1 s.fields[i] := by simp only [soundF, h1, cond_true, cond_false]
              repeat refine And.intro rfl ?_
              refine And.intro (fun h7 => ?_) (fun h7 => ?_)
              · repeat refine And.intro rfl ?_
                refine Or.inl (Exists.intro _ (And.intro (i_GateFits _ _) ?_))
                repeat refine And.intro rfl ?_
                refine And.intro (fun h8 => ?_) (fun h8 => ?_)
                · refine bd ?_
                  simp only [Bool.not_eq_true', Bool.not_eq_false'] at h7 h8
                  rw [hr, show fieldOkF kinds s.fields[i] = false from by simp only [fieldOkF, h7, h8, Bool.or_false, Bool.false_and, Bool.and_false]]; rfl
                · simp only [Bool.not_eq_true', Bool.not_eq_false'] at h7 h8
                  repeat refine And.intro rfl ?_
                  exact ⟨_, _, _, ⟨i + 1, rfl, hlt, by rw [hr, show fieldOkF kinds s.fields[i] = true from by simp only [fieldOkF, h2, e1, e2, h5, h6, h8, Bool.or_true, Bool.true_and]]; rfl, rfl, rfl⟩, by omega, rfl, rfl, ⟨rfl, rfl, rfl, rfl, nd (wrap_succ hlt hs), trivial⟩, ⟨⟨rfl, ltM_pre rfl⟩, trivial⟩, ⟨map_tab (seen_next (kinds := kinds) hlt hd), trivial⟩⟩
              · simp only [Bool.not_eq_true', Bool.not_eq_false'] at h7
                repeat refine And.intro rfl ?_
                exact ⟨_, _, _, ⟨i + 1, rfl, hlt, by rw [hr, show fieldOkF kinds s.fields[i] = true from by simp only [fieldOkF, h2, e1, e2, h5, h6, h7, Bool.true_or, Bool.true_and]]; rfl, rfl, rfl⟩, by omega, rfl, rfl, ⟨rfl, rfl, rfl, rfl, nd (wrap_succ hlt hs), trivial⟩, ⟨⟨rfl, ltM_pre rfl⟩, trivial⟩, ⟨map_tab (seen_next (kinds := kinds) hlt hd), trivial⟩⟩
          · refine bd ?_
            simp only [Bool.not_eq_true', Bool.not_eq_false'] at h5
            rw [hr, show fieldOkF kinds s.fields[i] = false from by simp only [fieldOkF, bare1 (kind_is 1 h1), h5, Bool.false_and, Bool.and_false]]; rfl
      · refine bd ?_
        simp only [Bool.not_eq_true', Bool.not_eq_false'] at h2
        rw [hr, show fieldOkF kinds s.fields[i] = false from by simp only [fieldOkF, h2, Bool.false_and]]; rfl
  · refine bd ?_
    rw [hr, flds_end (ge_map h1)]
end Go.Vc
