/- The soundness of one operation's condition, all kinds together. -/
import Derived.Test.YtcakciamoopkcaaGreatVcM
set_option linter.unusedVariables false
set_option linter.unusedSimpArgs false
namespace Go.Vc
section
variable {P : Program} {T : List (Nat × TI)} {N0 Nf : Nat → Prop} {w0 w w' : World} {n : Nat} {σ : Env} {h : Heap} {a : Act} {ν ν' ν0 : Nat → Value} {Q : Exit → Act → World → Prop} {next : Act → World → Prop}
  {K : AV → Heap → Rn → Prop}

theorem flatten_len {sz : Nat} : ∀ (l : List (List D)), (∀ r ∈ l, r.length = sz) → l.flatten.length = l.length * sz
  | [], _ => by simp
  | r :: l, hl => by
    simp only [List.flatten_cons, List.length_append, List.length_cons]
    rw [hl r List.mem_cons_self, flatten_len l (fun x hx => hl x (List.mem_cons_of_mem _ hx)), Nat.add_mul]; omega
theorem flatten_split (rows : List (List D)) {i : Nat} {row : List D} (hrow : rows[i]? = some row) : rows.flatten = (rows.take i).flatten ++ (row ++ (rows.drop (i + 1)).flatten) := by
  have hlt : i < rows.length := (List.getElem?_eq_some_iff.1 hrow).1
  have hd : rows.drop i = row :: rows.drop (i + 1) := by rw [List.drop_eq_getElem_cons hlt, (List.getElem?_eq_some_iff.1 hrow).2]
  conv => lhs; rw [← List.take_append_drop i rows, List.flatten_append, hd, List.flatten_cons]
/-- the cells of one row -/
theorem row_cells {N : Nat → Prop} {rows : List (List D)} {cells : List Value} {sz : Nat} (h : Rd w N rows.flatten cells) (hl : ∀ r ∈ rows, r.length = sz) {i : Nat} {row : List D} (hrow : rows[i]? = some row) :
    ∃ c1 c3 c4, cells = c1 ++ (c3 ++ c4) ∧ c1.length = i * sz ∧ Rd w N (rows.take i).flatten c1 ∧ Rd w N row c3 ∧ Rd w N (rows.drop (i + 1)).flatten c4 ∧ c3.length = sz := by
  rw [flatten_split rows hrow] at h
  obtain ⟨c1, c2, rfl, k1, k2⟩ := Rd.split h
  obtain ⟨c3, c4, rfl, k3, k4⟩ := Rd.split k2
  have hlt : i < rows.length := (List.getElem?_eq_some_iff.1 hrow).1
  refine ⟨c1, c3, c4, rfl, ?_, k1, k3, k4, ?_⟩
  · rw [k1.length, flatten_len _ (fun r hr => hl r (List.mem_of_mem_take hr)), List.length_take, Nat.min_eq_left (by omega)]
  · rw [k3.length]; exact hl row (List.mem_of_getElem? hrow)

theorem index_sound (hT : tabB P T = true) (s : St N0 w0 Nf n ν0 σ h a w ν) {o : Oper} {t : TypeId} {x i : Operand} (hop : o.op = .index t x i) (hv : vcOp T (specs P) (ev σ) h (.index t x i) K)
    (hn : ∀ r h' m a' w' ν', K r h' m → St N0 w0 Nf n ν0 ((σ.ren m).putO n o.dst r) h' a' w' ν' → next a' w') : o.wp P a w next Q := by
  have hxx := ev_ok s x
  have hii := ev_ok s i
  simp only [vcOp] at hv
  split at hv
  · rename_i ti hti
    split at hv
    · rename_i l k j hk e1 e2
      rw [e1] at hxx; rw [e2] at hii
      obtain ⟨h0, b, hb, hv⟩ := hv
      have he : execOp a.eval o = (do pure (Next.value (← Instr.index t (a.eval x) (a.eval i)))) := by unfold execOp; rw [hop]
      rw [(rv_str hxx).1, rv_int hii] at he
      refine Looks.wp s ⟨_, exec_val he ?_, .d (.int .u8 b.toNat .nil) .nil⟩ (fun a' w' hs => hn _ _ (.sub []) a' w' ν hv hs)
      unfold Instr.index
      have hlt : j.toNat < l.length := (List.getElem?_eq_some_iff.1 hb).1
      have e3 : (mkS l)[j.toNat]? = some b := by
        have : j.toNat < (mkS l).size := hlt
        rw [getElem?_pos (mkS l) j.toNat this]
        congr 1
        have h2 := (List.getElem?_eq_some_iff.1 hb).2
        rw [← h2]; rfl
      simp only [Sem.run_bind, run_underlying (str_of (tabB_ok hT hti) hk), Result.andThen_ok, asIntOf, Sem.run_pure, if_pos h0, e3]
    · rename_i m e cs k j hk e1 e2
      rw [e1] at hxx; rw [e2] at hii
      obtain ⟨⟨h0, h1⟩, hv⟩ := hv
      split at hv
      · rename_i te hte
        obtain ⟨r, hl, hv⟩ := hv
        have he : execOp a.eval o = (do pure (Next.value (← Instr.index t (a.eval x) (a.eval i)))) := by unfold execOp; rw [hop]
        obtain ⟨xs, q1, q2⟩ := rv_agg hxx
        rw [q1, rv_int hii] at he
        have k' := tabB_ok hT hte
        obtain ⟨g1, g2⟩ := loadL_ok k'.one (q2.drop (j.toNat * te.size)) hl
        refine Looks.wp s ⟨_, exec_val he ?_, g2⟩ (fun a' w' hs => hn _ _ (.sub []) a' w' ν hv hs)
        unfold Instr.index
        simp only [Sem.run_bind, run_underlying (array_of (tabB_ok hT hti) hk), Result.andThen_ok, asIntOf, Sem.run_pure, run_sizeOf' k']
        rw [if_pos ⟨h0, h1⟩]
        simp only [Sem.run_bind, run_sizeOf' k', Result.andThen_ok]
        exact run_part k' g1
      · exact hv.elim
    · exact hv.elim
  · exact hv.elim

theorem run_indexAt' {t e : TypeId} {te : TI} (k : TiOk P e te) (ht : P.underlying t = some (.slice e)) {b o len cap : Nat} {kd : IntKind} {i : Int} (h0 : 0 ≤ i) (h1 : i < len) :
    (Instr.indexAt t (.slice (some ⟨b, o, none⟩) len cap) (.int kd i)).run P w = .ok (.pointer (some ⟨b, o + i.toNat * te.size, none⟩)) w := by
  unfold Instr.indexAt
  simp only [Sem.run_bind, asIntOf, Sem.run_pure, Result.andThen_ok, run_underlying ht]
  simp [h0, h1, run_sizeOf' k, Addr.add_lit]

theorem indexAddr_sound (hT : tabB P T = true) (s : St N0 w0 Nf n ν0 σ h a w ν) {o : Oper} {t : TypeId} {x i : Operand} (hop : o.op = .indexAddr t x i) (hv : vcOp T (specs P) (ev σ) h (.indexAddr t x i) K)
    (hn : ∀ r h' m a' w' ν', K r h' m → St N0 w0 Nf n ν0 ((σ.ren m).putO n o.dst r) h' a' w' ν' → next a' w') : o.wp P a w next Q := by
  have hxx := ev_ok s x
  have hii := ev_ok s i
  have he : execOp a.eval o = (do pure (Next.value (← Instr.indexAt t (a.eval x) (a.eval i)))) := by unfold execOp; rw [hop]
  simp only [vcOp] at hv
  split at hv
  · rename_i ti hti
    split at hv
    · rename_i e hk
      split at hv
      · rename_i te hte
        obtain ⟨hsz, hv⟩ := hv
        have hsz : 0 < te.size := Nat.le_of_ble_eq_true hsz
        have ht := slice_of (tabB_ok hT hti) hk
        have k := tabB_ok hT hte
        split at hv
        · rename_i l kd j e1 e2
          rw [e1] at hxx; rw [e2] at hii
          obtain ⟨h0, row, hrow, hlen, hv⟩ := hv
          obtain ⟨A, cap, sz, cells, g1, g2, g3, g4, g5, g6⟩ := rv_list hxx
          have hsz' : sz = te.size := by rw [← g3 row (List.mem_of_getElem? hrow), hlen]
          subst hsz'
          obtain ⟨c1, c3, c4, q1, q2, _, q3, _, q4⟩ := row_cells g2 g3 hrow
          have hlt : j.toNat < l.length := (List.getElem?_eq_some_iff.1 hrow).1
          rcases g4 with g4 | ⟨b, off, g4, hN, g7⟩
          · rw [g4] at q1
            have : (c1 ++ (c3 ++ c4)).length = 0 := by rw [← q1]; rfl
            simp only [List.length_append] at this
            omega
          · rw [g1, g4, rv_int hii] at he
            refine Looks.wp s ⟨_, exec_val he (run_indexAt' k ht h0 (by omega)), .at_ _ c3 (fun g => by rw [g] at q4; simp at q4; omega) q3 (.inr ⟨b, off + j.toNat * te.size, rfl, hN, fun q u hu => ?_⟩) .nil⟩ (fun a' w' hs => hn _ _ (.sub []) a' w' ν hv hs)
            rw [Nat.add_assoc]
            refine g7 _ u ?_
            have hq : q < c3.length := by
              rcases Nat.lt_or_ge q c3.length with g | g
              · exact g
              · rw [List.getElem?_eq_none g] at hu; cases hu
            rw [q1, List.getElem?_append_right (by omega), q2, Nat.add_sub_cancel_left, List.getElem?_append_left hq]
            exact hu
        · rename_i id kd j e1 e2
          rw [e1] at hxx; rw [e2] at hii
          split at hv
          · rename_i e' sz rows hid
            obtain ⟨hb, h0, h1, hv⟩ := hv
            have := Nat.eq_of_beq_eq_true hb
            subst this
            obtain ⟨A, c, cells, g1, g2, g3, g4, g5, g6⟩ := s.hp.objs _ _ hid
            obtain ⟨g7, _⟩ := rv_own hxx
            rcases g6.2 with ⟨q1, q2⟩ | ⟨b, cap, cur, q1, _⟩
            · rw [q2] at h1; omega
            · have g1' := g1
              rw [q1] at g1
              injection g1 with e1 e2 e3
              subst e1 e3
              rw [g7, g1', rv_int hii] at he
              have hr := run_indexAt' (w := w) (o := 0) (b := b) (len := rows.length) (cap := cap) (kd := kd) k ht h0 h1
              refine Looks.wp s ⟨_, exec_val he hr, ?_⟩ (fun a' w' hs => hn _ _ (.sub []) a' w' ν hv hs)
              have : (0 : Nat) + j.toNat * te.size = j.toNat * te.size + 0 := by omega
              rw [this]
              exact .rptr j.toNat 0 te.size g1' (by omega) .nil
          · exact hv.elim
        · exact hv.elim
      · exact hv.elim
    · exact hv.elim
  · exact hv.elim

theorem store_sound (hT : tabB P T = true) (s : St N0 w0 Nf n ν0 σ h a w ν) {o : Oper} {t : TypeId} {x y : Operand} (hop : o.op = .store t x y) (hv : vcOp T (specs P) (ev σ) h (.store t x y) K)
    (hn : ∀ r h' m a' w' ν', K r h' m → St N0 w0 Nf n ν0 ((σ.ren m).putO n o.dst r) h' a' w' ν' → next a' w') : o.wp P a w next Q := by
  have hxx := ev_ok s x
  have hyy := ev_ok s y
  have he : execOp a.eval o = (do (Instr.storeAt t (a.eval x) (a.eval y)); pure Next.skip) := by unfold execOp; rw [hop]
  simp only [vcOp] at hv
  split at hv
  · rename_i ti hti
    have k := tabB_ok hT hti
    split at hv
    · rename_i new id off hc e1
      rw [e1] at hxx
      obtain ⟨g1, g2, g3, g4⟩ := cellsOf_ok hyy hc k.one
      obtain ⟨b, q1, q2⟩ := rv_ptr hxx
      split at hv
      · rename_i t' cs hid
        obtain ⟨hb, hv⟩ := hv
        have hb := Nat.le_of_ble_eq_true hb
        obtain ⟨b', arr, e, p1, p2, p3⟩ := s.hp.objs _ _ hid
        rw [q2] at p1
        obtain rfl : b = b' := by injection p1 with h1; injection h1 with h1; injection h1
        have hlen := p3.length
        have hst := run_storeVar' (w := w) k p2 (a.eval y) g2 g4 (o := off) (by have : arr.toList.length = arr.size := by simp
                                                                                omega)
        have hro : Ro (w.setRow b (arr.toList.take off ++ (a.eval y).cells.toList ++ arr.toList.drop (off + (a.eval y).cells.toList.length)).toArray) (nN N0 ν) ν id (.cells t' (over cs off new)) := by
          refine ⟨b, _, e, q2, setRow_heap w b arr _ e _ p2, ?_⟩
          have m : Mv w (nN N0 ν) (w.setRow b (arr.toList.take off ++ (a.eval y).cells.toList ++ arr.toList.drop (off + (a.eval y).cells.toList.length)).toArray) (nN N0 ν) :=
            ⟨by simp [World.setRow], fun c hc hN => ⟨hN, setRow_other w b c _ (fun e => hN (.inr ⟨id, by rw [q2, e]; rfl⟩))⟩⟩
          simpa using (over_rv p3 g1 off).mv m (fun _ _ => rfl)
        have hs := s.set (by rw [q2]; rfl) (setRow_kp w b _) hro
        refine wp_skip' ?_ (hn _ _ (.sub []) _ _ ν hv (putAgain hs o.dst (.val _ .nil)))
        rw [he]
        simp only [Instr.storeAt, q1, Instr.sureAddr, Sem.run_bind, Sem.run_pure, Result.andThen_ok, hst]
      · exact hv.elim
    · rename_i new id i sz' off hc e1
      rw [e1] at hxx
      obtain ⟨g1, g2, g3, g4⟩ := cellsOf_ok hyy hc k.one
      obtain ⟨b, mm, c, q1, q2, q3⟩ := rv_rptr hxx
      split at hv
      · rename_i e sz rows ds hid hds
        obtain ⟨hb, row, hrow, hfit, hv⟩ := hv
        have := Nat.eq_of_beq_eq_true hb
        subst this
        obtain ⟨A, c', cells, p1, p2, p3, p4, p5, p6⟩ := s.hp.objs _ _ hid
        rw [q2] at p1
        injection p1 with f1 f2 f3
        subst f1 f2 f3
        rcases p6.2 with ⟨g, _⟩ | ⟨g, cap, cur, r1, _, r2, r3, r4, r5, r6⟩
        · rw [q2] at g; cases g
        · rw [q2] at r1
          injection r1 with f1 f2 f3
          injection f1 with f1
          injection f1 with f1
          subst f1 f3
          obtain ⟨c1, c3, c4, u1, u2, u3, u4, u5, u6⟩ := row_cells p2 p3 hrow
          have hlt : i < rows.length := (List.getElem?_eq_some_iff.1 hrow).1
          have hds' := (norm_rvs g1).dsOf hds
          have hdl := hds'.length
          have hrl := p3 row (List.mem_of_getElem? hrow)
          have hcells : cells.length = rows.length * sz' := p6.1
          have hmul : i * sz' + sz' ≤ rows.length * sz' := by
            have : (i + 1) * sz' ≤ rows.length * sz' := Nat.mul_le_mul_right _ hlt
            rw [Nat.add_mul] at this; omega
          have hvl : (a.eval y).cells.toList.length = (a.eval y).cells.size := by simp
          have hcap := Nat.mul_le_mul_right sz' r3
          have hst := run_storeVar' (w := w) k r2 (a.eval y) g2 g4 (o := i * sz' + off) (by omega)
          have hnewrows : (rows.set i (overD row off ds)).flatten = (rows.take i).flatten ++ (overD row off ds ++ (rows.drop (i + 1)).flatten) := by
            rw [flatten_split (rows.set i (overD row off ds)) (i := i) (row := overD row off ds) (by simp [hlt])]
            congr 1
            · rw [List.take_set_of_le (Nat.le_refl _)]
            · congr 1
              rw [List.drop_set_of_lt (by omega)]
          have hover : Rd w (nN N0 ν) (overD row off ds) (c3.take off ++ (a.eval y).cells.toList ++ c3.drop (off + (a.eval y).cells.toList.length)) := by
            unfold overD
            rw [← hdl]
            exact ((u4.take off).append hds').append (u4.drop _)
          have hnew : Rd w (nN N0 ν) (rows.set i (overD row off ds)).flatten (c1 ++ ((c3.take off ++ (a.eval y).cells.toList ++ c3.drop (off + (a.eval y).cells.toList.length)) ++ c4)) := by
            rw [hnewrows]
            exact u3.append (hover.append u5)
          have hod : (overD row off ds).length = sz' := by
            unfold overD
            simp only [List.length_append, List.length_take, List.length_drop]
            omega
          have m : Mv w (nN N0 ν) (w.setRow b (cur.toList.take (i * sz' + off) ++ (a.eval y).cells.toList ++ cur.toList.drop (i * sz' + off + (a.eval y).cells.toList.length)).toArray) (nN N0 ν) :=
            ⟨by simp [World.setRow], fun c hc hN => ⟨hN, setRow_other w b c _ (fun e => hN (.inr ⟨id, by rw [q2, e]; rfl⟩))⟩⟩
          have hcl : (c1 ++ ((c3.take off ++ (a.eval y).cells.toList ++ c3.drop (off + (a.eval y).cells.toList.length)) ++ c4)).length = rows.length * sz' := by
            rw [hnew.length, flatten_len (sz := sz')]
            · simp
            · intro r hr
              rcases List.mem_or_eq_of_mem_set hr with hr | rfl
              · exact p3 r hr
              · exact hod
          have htake : (cur.toList.take (i * sz' + off) ++ (a.eval y).cells.toList ++ cur.toList.drop (i * sz' + off + (a.eval y).cells.toList.length)).take (rows.length * sz') =
              c1 ++ ((c3.take off ++ (a.eval y).cells.toList ++ c3.drop (off + (a.eval y).cells.toList.length)) ++ c4) := by
            have hcur : cur.toList = c1 ++ (c3 ++ c4) ++ cur.toList.drop (rows.length * sz') := by
              rw [← u1, ← r6, List.take_append_drop]
            have e1 : cur.toList.take (i * sz' + off) = c1 ++ c3.take off := by
              rw [hcur, List.take_append_of_le_length (by rw [← u1, hcells]; omega), ← u2, List.take_length_add_append, List.take_append_of_le_length (by omega)]
            have e2 : cur.toList.drop (i * sz' + off + (a.eval y).cells.toList.length) = c3.drop (off + (a.eval y).cells.toList.length) ++ c4 ++ cur.toList.drop (rows.length * sz') := by
              conv => lhs; rw [hcur]
              rw [List.drop_append_of_le_length (by rw [← u1, hcells]; omega), Nat.add_assoc, ← u2, List.drop_length_add_append, List.drop_append_of_le_length (by omega)]
            rw [e1, e2]
            have e3 : c1 ++ c3.take off ++ (a.eval y).cells.toList ++ (c3.drop (off + (a.eval y).cells.toList.length) ++ c4 ++ cur.toList.drop (rows.length * sz')) =
                (c1 ++ ((c3.take off ++ (a.eval y).cells.toList ++ c3.drop (off + (a.eval y).cells.toList.length)) ++ c4)) ++ cur.toList.drop (rows.length * sz') := by simp
            rw [e3, ← hcl]
            exact List.take_left
          have hro : Ro (w.setRow b (cur.toList.take (i * sz' + off) ++ (a.eval y).cells.toList ++ cur.toList.drop (i * sz' + off + (a.eval y).cells.toList.length)).toArray) (nN N0 ν) ν id (.row e sz' (rows.set i (overD row off ds))) := by
            refine ⟨_, _, _, by rw [q2, List.length_set], hnew.mv m, ?_, by simpa using p4, p5, ?_⟩
            · intro r hr
              rcases List.mem_or_eq_of_mem_set hr with hr | rfl
              · exact p3 r hr
              · exact hod
            · rw [List.length_set]
              refine ⟨hcl, .inr ⟨b, _, _, q2, Nat.zero_le _, setRow_heap w b cur _ e _ r2, r3, r4, ?_, htake⟩⟩
              rw [List.size_toArray]
              simp only [List.length_append, List.length_take, List.length_drop, Array.length_toList]
              omega
          have hs := s.set (by rw [q2]; rfl) (setRow_kp w b _) hro
          refine wp_skip' ?_ (hn _ _ (.sub []) _ _ ν hv (putAgain hs o.dst (.val _ .nil)))
          rw [he]
          simp only [Instr.storeAt, q1, Instr.sureAddr, Sem.run_bind, Sem.run_pure, Result.andThen_ok, hst]
      · exact hv.elim
    · exact hv.elim
  · exact hv.elim
end
end Go.Vc
