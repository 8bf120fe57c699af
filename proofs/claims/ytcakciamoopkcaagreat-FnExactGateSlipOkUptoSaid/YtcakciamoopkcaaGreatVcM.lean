/- The soundness of one operation's condition. -/
import Derived.Test.YtcakciamoopkcaaGreatVcL
set_option linter.unusedVariables false
set_option linter.unusedSimpArgs false
namespace Go.Vc
section
variable {P : Program} {T : List (Nat × TI)} {N0 Nf : Nat → Prop} {w0 w w' : World} {n : Nat} {σ : Env} {h : Heap} {a : Act} {ν ν' ν0 : Nat → Value} {Q : Exit → Act → World → Prop} {next : Act → World → Prop}
  {K : AV → Heap → Rn → Prop}

theorem mkS_size (l : Bs) : (mkS l).size = l.length := rfl
theorem exec_builtin {o : Oper} {c : Call} {b : Builtin} (hop : o.op = .call c) (hc : c.callee = .builtin b) :
    execOp a.eval o = builtin b c.argTypes o.type (c.args.map fun | .const _ => true | _ => false) (c.args.map a.eval) := by
  unfold execOp
  rw [hop]
  simp only [resolve, hc]
  rfl

theorem row_slice (s : St N0 w0 Nf n ν0 σ h a w ν) {id e sz : Nat} {rows : List (List D)} (hid : Vc.look h.objs id = some (.row e sz rows)) : ∃ A c, ν id = .slice A rows.length c := by
  obtain ⟨A, c, cells, h1, _⟩ := s.hp.objs _ _ hid
  exact ⟨A, c, h1⟩

theorem vcLen_sound (hT : tabB P T = true) (s : St N0 w0 Nf n ν0 σ h a w ν) {o : Oper} {c : Call} {x : Operand} {t : TypeId} {ti : TI} (hop : o.op = .call c) (hc : c.callee = .builtin .len) (hx : c.args.toList = [x]) (ht : c.argTypes.toList = [t])
    (hti : Vc.look T t = some ti) (hv : vcLen ti.kind h (ev σ x) K) (hn : ∀ r h' m a' w' ν', K r h' m → St N0 w0 Nf n ν0 ((σ.ren m).putO n o.dst r) h' a' w' ν' → next a' w') : o.wp P a w next Q := by
  have e1 : c.args = #[x] := by apply Array.ext'; simpa using hx
  have e2 : c.argTypes = #[t] := by apply Array.ext'; simpa using ht
  have he : ∀ v, (Builtin.len_ #[t] o.type #[a.eval x]).run P w = .ok v w → (execOp a.eval o).run P w = .ok (.value v) w := by
    intro v hv
    rw [exec_builtin hop hc, e1, e2]
    simp only [builtin, Sem.run_bind, List.map_toArray, List.map_cons, List.map_nil, hv, Result.andThen_ok, Sem.run_pure]
  have hxx := ev_ok s x
  have k := tabB_ok hT hti
  unfold vcLen at hv
  split at hv
  · rename_i l hk e
    rw [e] at hxx
    obtain ⟨e3, _⟩ := rv_str hxx
    refine Looks.wp s ⟨_, he (.int .i64 l.length) ?_, .d (.int _ _ .nil) .nil⟩ (fun a' w' hs => hn _ _ (.sub []) a' w' ν hv hs)
    rw [e3]
    unfold Builtin.len_
    simp [run_underlying (str_of k hk), goInt, mkS_size]
  · rename_i e' l hk e
    rw [e] at hxx
    obtain ⟨A, cap, sz, cells, e3, _⟩ := rv_list hxx
    refine Looks.wp s ⟨_, he (.int .i64 l.length) ?_, .d (.int _ _ .nil) .nil⟩ (fun a' w' hs => hn _ _ (.sub []) a' w' ν hv hs)
    rw [e3]
    unfold Builtin.len_
    simp [run_underlying (slice_of k hk), goInt]
  · rename_i e' hk e
    rw [e] at hxx
    have e3 := rv_nils hxx
    refine Looks.wp s ⟨_, he (.int .i64 0) ?_, .d (.int _ _ .nil) .nil⟩ (fun a' w' hs => hn _ _ (.sub []) a' w' ν hv hs)
    rw [e3]
    unfold Builtin.len_
    simp [run_underlying (slice_of k hk), goInt]
  · rename_i e' id hk e
    rw [e] at hxx
    split at hv
    · rename_i et sz rows hid
      obtain ⟨e3, _⟩ := rv_own hxx
      obtain ⟨A, cap, e4⟩ := row_slice s hid
      refine Looks.wp s ⟨_, he (.int .i64 rows.length) ?_, .d (.int _ _ .nil) .nil⟩ (fun a' w' hs => hn _ _ (.sub []) a' w' ν hv hs)
      rw [e3, e4]
      unfold Builtin.len_
      simp [run_underlying (slice_of k hk), goInt]
    · exact hv.elim
  · exact hv.elim

/-- what is appended, in memory -/
theorem addRows_ok (s : St N0 w0 Nf n ν0 σ h a w ν) {x : AV} {v : Value} (hx : Rv w (nN N0 ν) ν [x] [v]) {new : List (List D)} (ha : addRows h.objs x = some new) {sz : Nat} (hsz : 0 < sz) (hl : ∀ r ∈ new, r.length = sz) :
    ∃ A c cells, v = .slice A new.length c ∧ Rd w (nN N0 ν) new.flatten cells ∧ cells.length = new.length * sz ∧ (new.length = 0 ∨ ∃ b o, A = some ⟨b, o, none⟩ ∧ ∀ (j : Nat) u, cells[j]? = some u → w.cell? ⟨b, o + j, none⟩ = some u) := by
  have hlen : ∀ (l : List (List D)), (∀ r ∈ l, r.length = sz) → l.flatten.length = l.length * sz := by
    intro l hl
    induction l with
    | nil => simp
    | cons r l ih => simp only [List.flatten_cons, List.length_append, List.length_cons]; rw [hl r List.mem_cons_self, ih (fun x hx => hl x (List.mem_cons_of_mem _ hx)), Nat.add_mul]; omega
  unfold addRows at ha
  split at ha
  · rename_i rows
    simp only [Option.some.injEq] at ha
    subst ha
    obtain ⟨A, cap, sz', cells, h1, h2, h3, h4, h5, h6⟩ := rv_list hx
    have hc : cells.length = rows.length * sz := by rw [h2.length, hlen _ hl]
    refine ⟨A, cap, cells, h1, h2, hc, ?_⟩
    rcases h4 with g | ⟨b, o, g, _, g2⟩
    · rw [g] at hc
      left
      rcases Nat.mul_eq_zero.1 hc.symm with e | e
      · exact e
      · omega
    · exact .inr ⟨b, o, g, g2⟩
  · simp only [Option.some.injEq] at ha
    subst ha
    have := rv_nils hx
    exact ⟨none, 0, [], this, .nil, by simp, .inl rfl⟩
  · rename_i id
    split at ha
    · rename_i e sz' rows hid
      simp only [Option.some.injEq] at ha
      subst ha
      obtain ⟨A, c, cells, h1, h2, h3, h4, h5, h6⟩ := s.hp.objs _ _ hid
      obtain ⟨e3, _⟩ := rv_own hx
      refine ⟨A, c, cells, by rw [e3, h1], h2, by rw [h2.length, hlen _ hl], ?_⟩
      rcases h6.2 with ⟨_, g⟩ | ⟨g, cap, cur, g1, _, g2, g3, _, g4, g5⟩
      · exact .inl g
      · rw [h1] at g1
        injection g1 with e1 e2 e3
        subst e1
        refine .inr ⟨g, 0, rfl, fun j u hu => ?_⟩
        rw [← g5, List.getElem?_take] at hu
        split at hu
        · simpa [World.cell?, g2] using hu
        · cases hu
    · cases ha
  · cases ha

theorem vcAppend_sound (hT : tabB P T = true) (s : St N0 w0 Nf n ν0 σ h a w ν) {o : Oper} {c : Call} {x y : Operand} {t t2 : TypeId} (hop : o.op = .call c) (hc : c.callee = .builtin .append) (hx : c.args.toList = [x, y]) (ht : c.argTypes.toList = [t, t2])
    (hv : vcAppend T h t t2 (ev σ x) (ev σ y) K) (hn : ∀ r h' m a' w' ν', K r h' m → St N0 w0 Nf n ν0 ((σ.ren m).putO n o.dst r) h' a' w' ν' → next a' w') : o.wp P a w next Q := by
  have e1 : c.args = #[x, y] := by apply Array.ext'; simpa using hx
  have e2 : c.argTypes = #[t, t2] := by apply Array.ext'; simpa using ht
  have he : ∀ v w', (Builtin.append_ #[t, t2] o.type #[a.eval x, a.eval y]).run P w = .ok v w' → (execOp a.eval o).run P w = .ok (.value v) w' := by
    intro v w' hv
    rw [exec_builtin hop hc, e1, e2]
    simp only [builtin, Sem.run_bind, List.map_toArray, List.map_cons, List.map_nil, hv, Result.andThen_ok, Sem.run_pure]
  have hxx := ev_ok s x
  have hyy := ev_ok s y
  unfold vcAppend at hv
  split at hv
  · rename_i ti new hti hnew
    split at hv
    · rename_i e hk
      split at hv
      · rename_i te hte
        obtain ⟨hc1, hl, hv⟩ := hv
        simp only [Bool.and_eq_true] at hc1
        obtain ⟨⟨hc1, hc2⟩, hc3⟩ := hc1
        have := Nat.eq_of_beq_eq_true hc1
        subst this
        have hc2 := Nat.le_of_ble_eq_true hc2
        have hc3 : 0 < te.size := Nat.le_of_ble_eq_true hc3
        have ht := slice_of (tabB_ok hT hti) hk
        have k := tabB_ok hT hte
        obtain ⟨A, cc, ncells, f1, f2, f3, f4⟩ := addRows_ok s hyy hnew hc3 hl
        split at hv
        · rename_i id e3
          rw [e3] at hxx
          obtain ⟨g1, A0, m0, c0, g2⟩ := rv_own hxx
          split at hv
          · rename_i e' sz rows hid
            obtain ⟨hb1, hb2, hv⟩ := hv
            simp only [Bool.and_eq_true] at hb1
            have q1 := Nat.eq_of_beq_eq_true hb1.1
            have q2 := Nat.eq_of_beq_eq_true hb1.2
            subst q1 q2
            obtain ⟨A', c', cells, h1, h2, h3, h4, h5, h6⟩ := s.hp.objs _ _ hid
            obtain ⟨v', w', r1, r2⟩ := append_ok (ty := o.type) k ht hc3 hc2 h6 f3 f4 f2.one hb2
            obtain ⟨ν', hs⟩ := s.grow hid r2 (by rw [List.flatten_append]; exact h2.append f2) (fun r hr => (List.mem_append.1 hr).elim (h3 r) (hl r)) hb2 hc3 ⟨_, _, _, g2⟩ o.dst
            refine wp_value (he v' w' ?_) (hn _ _ (.sub [(id, .any)]) _ w' ν' hv hs)
            rw [g1, f1]; exact r1
          · exact hv.elim
        · rename_i e3
          rw [e3] at hxx
          have g1 := rv_nils hxx
          obtain ⟨hb2, hv⟩ := hv
          have hown : w.ownsRow 0 e te.size (.slice none 0 0) 0 [] := ⟨by simp, .inl ⟨rfl, rfl⟩⟩
          obtain ⟨v', w', r1, r2⟩ := append_ok (ty := o.type) k ht hc3 hc2 hown f3 f4 f2.one (by omega)
          obtain ⟨A', c', hf⟩ := r2.form
          rw [Nat.zero_add] at hf
          have hk : Kp (fun _ => False) w w' := ⟨r2.os, r2.tape, r2.output, r2.size, fun b hb _ => r2.blk b hb (by simp [vblk])⟩
          have hown' := r2.own
          rw [Nat.zero_add, List.nil_append] at hown'
          obtain ⟨ν', hs⟩ := s.newRow hk (val := v') (by rw [hf]; simp [undef]) (fun b hb => by
            refine ⟨?_, ownsRow_vblk hown' b hb⟩
            rcases r2.val with g | ⟨b', g, hb'⟩
            · rw [g] at hb; cases hb
            · rw [g] at hb; injection hb with hb; omega) hf f2 hl hb2 hc3 hown' o.dst
          refine wp_value (he v' w' ?_) (hn _ _ (.sub []) _ w' ν' hv hs)
          rw [g1, f1]; exact r1
        · exact hv.elim
      · exact hv.elim
    · exact hv.elim
  · exact hv.elim
end
end Go.Vc
