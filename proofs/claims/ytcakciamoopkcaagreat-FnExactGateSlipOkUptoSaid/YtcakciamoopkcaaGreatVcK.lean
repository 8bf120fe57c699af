/- The soundness of what is computed: all operations together. -/
import Derived.Test.YtcakciamoopkcaaGreatVcJ
set_option linter.unusedVariables false
set_option linter.unusedSimpArgs false
namespace Go.Vc
section
variable {P : Program} {T : List (Nat × TI)} {N0 Nf : Nat → Prop} {w0 w w' : World} {n : Nat} {σ : Env} {h : Heap} {a : Act} {ν ν' ν0 : Nat → Value} {Q : Exit → Act → World → Prop} {next : Act → World → Prop}

theorem pick_rv {N : Nat → Prop} {t : Bool} {x y : AV} {u v : Value} (hx : Rv w N ν [x] [u]) (hy : Rv w N ν [y] [v]) : Rv w N ν [pickAV t x y] [if t = true then u else v] := by
  have hx := norm_rv hx
  have hy := norm_rv hy
  unfold pickAV
  split
  · rename_i e1 e2
    rw [e1] at hx; rw [e2] at hy
    rw [rv_bool hx, rv_bool hy]
    cases t <;> exact .d (.bool _ .nil) .nil
  · cases t
    · exact hy
    · exact hx

theorem parts_rv (s : St N0 w0 Nf n ν0 σ h a w ν) (parts : Array (Nat × Operand)) :
    ((parts.toList.map fun p => (p.1, ev σ p.2)).map (·.1) = ((parts.map fun (i, x) => (i, a.eval x)).toList).map (·.1)) ∧
    Rv w (nN N0 ν) ν ((parts.toList.map fun p => (p.1, ev σ p.2)).map (·.2)) (((parts.map fun (i, x) => (i, a.eval x)).toList).map (·.2)) := by
  rw [Array.toList_map]
  generalize parts.toList = l
  induction l with
  | nil => exact ⟨rfl, .nil⟩
  | cons p l ih =>
    obtain ⟨i, x⟩ := p
    exact ⟨by simp only [List.map_cons, ih.1], (ev_ok s x).cons ih.2⟩

theorem St.newRow (s : St N0 w0 Nf n ν0 σ h a w ν) (hk : Kp (fun _ => False) w w') {val : Value} (hval : val ≠ undef) (hblk : ∀ b, vblk val = some b → w.heap.size ≤ b ∧ b < w'.heap.size)
    {t sz : Nat} {rows : List (List D)} {cells : List Value} {A : Option Addr} {c : Nat} (hv : val = .slice A rows.length c) (hr : Rd w (nN N0 ν) rows.flatten cells) (hl : ∀ r ∈ rows, r.length = sz) (hb : rows.length ≤ big) (hsz : 0 < sz)
    (ho : w'.ownsRow 0 t sz val rows.length cells) (d : Option Nat) :
    ∃ ν', St N0 w0 Nf n ν0 (σ.putO n d (.own h.nx)) (h.new (.row t sz rows)) (a.put d val) w' ν' := by
  refine ⟨_, s.new hk hval hblk (fun m hν => ?_) d ?_⟩
  · exact ⟨A, c, cells, by simp [upd, hv], hr.mv m, hl, hb, hsz, by simpa [upd] using ho⟩
  · rw [hv]; exact .own (by simp [upd, hv]) .nil

theorem opFun_sound (hT : tabB P T = true) (s : St N0 w0 Nf n ν0 σ h a w ν) {o : Oper} {r : AV} {h' : Heap} {m : Rn} (hf : opFun T (ev σ) h o.op = some (r, h', m))
    (hn : ∀ a' w' ν', St N0 w0 Nf n ν0 ((σ.ren m).putO n o.dst r) h' a' w' ν' → next a' w') : o.wp P a w next Q := by
  cases hop : o.op <;> rw [hop] at hf
  case move x =>
    simp only [opFun, Option.some.injEq, Prod.mk.injEq] at hf
    obtain ⟨rfl, rfl, rfl⟩ := hf
    exact Looks.wp s ⟨a.eval x, by unfold execOp; rw [hop]; rfl, ev_ok s x⟩ (fun a' w' hs => hn a' w' ν hs)
  case assign x =>
    simp only [opFun, Option.some.injEq, Prod.mk.injEq] at hf
    obtain ⟨rfl, rfl, rfl⟩ := hf
    exact Looks.wp s ⟨a.eval x, by unfold execOp; rw [hop]; rfl, ev_ok s x⟩ (fun a' w' hs => hn a' w' ν hs)
  case pick c x y =>
    simp only [opFun] at hf
    split at hf
    · rename_i t e
      simp only [Option.some.injEq, Prod.mk.injEq] at hf
      obtain ⟨rfl, rfl, rfl⟩ := hf
      have hc := ev_ok s c
      rw [e] at hc
      refine Looks.wp s ⟨if t = true then a.eval x else a.eval y, ?_, pick_rv (ev_ok s x) (ev_ok s y)⟩ (fun a' w' hs => hn a' w' ν hs)
      have he : execOp a.eval o = (do pure (Next.value (if ← asBool (a.eval c) then a.eval x else a.eval y))) := by unfold execOp; rw [hop]
      rw [he, rv_bool hc]
      rfl
    · rename_i t e
      simp only [Option.some.injEq, Prod.mk.injEq] at hf
      obtain ⟨rfl, rfl, rfl⟩ := hf
      have hc := ev_ok s c
      rw [e] at hc
      refine Looks.wp s ⟨if t = true then a.eval x else a.eval y, ?_, ?_⟩ (fun a' w' hs => hn a' w' ν hs)
      · have he : execOp a.eval o = (do pure (Next.value (if ← asBool (a.eval c) then a.eval x else a.eval y))) := by unfold execOp; rw [hop]
        rw [he, rv_val hc]
        rfl
      · cases t
        · exact ev_ok s y
        · exact ev_ok s x
    · cases hf
  case load t x =>
    obtain ⟨rfl, rfl, hl⟩ := load_looks hT s hop hf
    exact Looks.wp s hl (fun a' w' hs => hn a' w' ν hs)
  case binOp op xt x y yt =>
    simp only [opFun] at hf
    cases hb : bin T xt op (norm (ev σ x)) (norm (ev σ y)) with
    | none => rw [hb] at hf; cases hf
    | some d =>
      rw [hb] at hf
      simp only [Option.map_some, Option.some.injEq, Prod.mk.injEq] at hf
      obtain ⟨rfl, rfl, rfl⟩ := hf
      exact Looks.wp s (bin_looks hT s hop hb) (fun a' w' hs => hn a' w' ν hs)
  case unOp op xt x =>
    cases op <;> simp only [opFun] at hf <;> try (cases hf; done)
    split at hf
    · rename_i b e
      simp only [Option.some.injEq, Prod.mk.injEq] at hf
      obtain ⟨rfl, rfl, rfl⟩ := hf
      have hx := ev_ok s x
      rw [e] at hx
      have he : execOp a.eval o = (do pure (Next.value (← Op.unary .not (a.eval x)))) := by unfold execOp; rw [hop]
      rw [rv_bool hx] at he
      exact Looks.wp s ⟨.bool (!b), exec_val he rfl, .d (.bool _ .nil) .nil⟩ (fun a' w' hs => hn a' w' ν hs)
    · rename_i b e
      simp only [Option.some.injEq, Prod.mk.injEq] at hf
      obtain ⟨rfl, rfl, rfl⟩ := hf
      have hx := ev_ok s x
      rw [e] at hx
      have he : execOp a.eval o = (do pure (Next.value (← Op.unary .not (a.eval x)))) := by unfold execOp; rw [hop]
      rw [rv_val hx] at he
      exact Looks.wp s ⟨.bool (!b), exec_val he rfl, .val _ .nil⟩ (fun a' w' hs => hn a' w' ν hs)
    · cases hf
  case extract x i =>
    simp only [opFun] at hf
    split at hf
    · rename_i vs e
      cases hi : vs[i]? with
      | none => rw [hi] at hf; cases hf
      | some r' =>
        rw [hi] at hf
        simp only [Option.map_some, Option.some.injEq, Prod.mk.injEq] at hf
        obtain ⟨rfl, rfl, rfl⟩ := hf
        have hx := ev_ok s x
        rw [e] at hx
        obtain ⟨xs, h1, h2⟩ := rv_tup hx
        obtain ⟨v, h3, h4⟩ := h2.get hi
        have he : execOp a.eval o = (do pure (Next.value (← Instr.extract (a.eval x) i))) := by unfold execOp; rw [hop]
        rw [h1] at he
        refine Looks.wp s ⟨v, exec_val he ?_, h4⟩ (fun a' w' hs => hn a' w' ν hs)
        unfold Instr.extract
        simp [h3]
    · cases hf
  case makeFunc fn first caps =>
    cases fn <;> simp only [opFun] at hf <;> try (cases hf; done)
    rename_i f
    cases hb : first.toList.isEmpty <;> rw [hb] at hf
    · cases hf
    · simp only [cond_true, Option.some.injEq, Prod.mk.injEq] at hf
      obtain ⟨rfl, rfl, rfl⟩ := hf
      have hfirst : first = #[] := by simpa using hb
      have he : execOp a.eval o = (do pure (Next.value (← Instr.makeFunc (.func f) (first.map a.eval) (caps.map a.eval)))) := by unfold execOp; rw [hop]
      refine Looks.wp s ⟨.func (.func f) #[] (caps.map a.eval), exec_val he (by rw [hfirst]; simp [Instr.makeFunc]), ?_⟩ (fun a' w' hs => hn a' w' ν hs)
      have := evs_ok s caps.toList
      have e : caps.map a.eval = (caps.toList.map a.eval).toArray := by apply Array.ext'; simp
      rw [e]
      exact .fn f _ this .nil
  case makeInterface t x =>
    simp only [opFun] at hf
    split at hf
    · rename_i ti ht
      split at hf
      · cases hf
      · rename_i hk
        simp only [Option.some.injEq, Prod.mk.injEq] at hf
        obtain ⟨rfl, rfl, rfl⟩ := hf
        have he : execOp a.eval o = (do pure (Next.value (← Instr.makeInterface t (a.eval x)))) := by unfold execOp; rw [hop]
        refine Looks.wp s ⟨.iface t (a.eval x), exec_val he ?_, .iface t (ev_ok s x) .nil⟩ (fun a' w' hs => hn a' w' ν hs)
        obtain ⟨d, h1, h2⟩ := (tabB_ok hT ht).kind
        unfold Instr.makeInterface
        simp only [Sem.run_bind, run_underlying h1, Result.andThen_ok]
        cases d <;> first | rfl | (exfalso; unfold kindB at h2; split at h2 <;> simp_all)
    · cases hf
  case convert src dst x =>
    simp only [opFun] at hf
    split at hf
    · rename_i ts ti hts ht
      split at hf
      · rename_i k k' q hk e
        simp only [Option.some.injEq, Prod.mk.injEq] at hf
        obtain ⟨rfl, rfl, rfl⟩ := hf
        have hx := ev_ok s x
        rw [e] at hx
        have he : execOp a.eval o = (do pure (Next.value (← convert src dst (a.eval x)))) := by unfold execOp; rw [hop]
        rw [rv_int hx] at he
        refine Looks.wp s ⟨_, exec_val he ?_, .d (.int k _ .nil) .nil⟩ (fun a' w' hs => hn a' w' ν hs)
        obtain ⟨d, h1, _⟩ := (tabB_ok hT hts).kind
        unfold convert
        simp only [Sem.run_bind, run_underlying h1, run_underlying (int_of (tabB_ok hT ht) hk), Result.andThen_ok]
        rfl
      · cases hf
    · cases hf
  case fieldAddr t x f =>
    simp only [opFun] at hf
    split at hf
    · rename_i ti ht
      split at hf
      · rename_i fs hk
        split at hf
        · rename_i off t' hi
          split at hf
          · rename_i tf htf
            cases hz : Nat.beq tf.size 0 <;> rw [hz] at hf
            · simp only [cond_false] at hf
              have hz' : tf.size ≠ 0 := fun e => by rw [e] at hz; cases hz
              have hx := ev_ok s x
              have he : execOp a.eval o = (do pure (Next.value (← Instr.fieldAt t (a.eval x) f))) := by unfold execOp; rw [hop]
              have hrun := fun b o' => run_fieldAt (P := P) (w := w) (tabB_ok hT ht) (tabB_ok hT htf) hk hi hz' b o'
              split at hf
              · rename_i id o' e
                simp only [Option.some.injEq, Prod.mk.injEq] at hf
                obtain ⟨rfl, rfl, rfl⟩ := hf
                rw [e] at hx
                obtain ⟨b, h1, h2⟩ := rv_ptr hx
                rw [h1] at he
                exact Looks.wp s ⟨_, exec_val he (hrun _ _), .ptr _ h2 .nil⟩ (fun a' w' hs => hn a' w' ν hs)
              · rename_i ds e
                rw [e] at hx
                obtain ⟨b, o', cells, h1, h2, h3, h4, h5⟩ := rv_at hx
                rw [h1] at he
                split at hf
                · cases hf
                · rename_i d ds' hd
                  simp only [Option.some.injEq, Prod.mk.injEq] at hf
                  obtain ⟨rfl, rfl, rfl⟩ := hf
                  have h6 := h4.drop off
                  rw [hd] at h6
                  refine Looks.wp s ⟨_, exec_val he (hrun _ _), .at_ _ (cells.drop off) (fun g => ?_) h6 (.inr ⟨b, o' + off, rfl, h3, fun j v hv => ?_⟩) .nil⟩ (fun a' w' hs => hn a' w' ν hs)
                  · have := h6.length
                    rw [g] at this
                    simp at this
                  · rw [List.getElem?_drop] at hv
                    rw [Nat.add_assoc]
                    exact h5 _ v hv
              · rename_i id i sz o' e
                simp only [Option.some.injEq, Prod.mk.injEq] at hf
                obtain ⟨rfl, rfl, rfl⟩ := hf
                rw [e] at hx
                obtain ⟨b, mm, c, h1, h2, h3⟩ := rv_rptr hx
                rw [h1] at he
                have := hrun b (i * sz + o')
                rw [Nat.add_assoc] at this
                exact Looks.wp s ⟨_, exec_val he this, .rptr i _ sz h2 h3 .nil⟩ (fun a' w' hs => hn a' w' ν hs)
              · cases hf
            · cases hf
          · cases hf
        · cases hf
      · cases hf
    · cases hf
  case field t x f =>
    simp only [opFun] at hf
    split at hf
    · rename_i ti ht
      split at hf
      · rename_i fs hk
        split at hf
        · rename_i off t' hi
          split at hf
          · rename_i tf cs htf e
            cases hl : loadL tf (cs.drop off) with
            | none => rw [hl] at hf; cases hf
            | some r' =>
              rw [hl] at hf
              simp only [Option.map_some, Option.some.injEq, Prod.mk.injEq] at hf
              obtain ⟨rfl, rfl, rfl⟩ := hf
              have hx := ev_ok s x
              rw [e] at hx
              obtain ⟨xs, h1, h2⟩ := rv_agg hx
              have k' := tabB_ok hT htf
              obtain ⟨g1, g2⟩ := loadL_ok k'.one (h2.drop off) hl
              obtain ⟨fields, h3, h4⟩ := struct_of (tabB_ok hT ht) hk
              obtain ⟨fd, h5, rfl, rfl⟩ := field_at h4 hi
              have he : execOp a.eval o = (do pure (Next.value (← Instr.field t (a.eval x) f))) := by unfold execOp; rw [hop]
              rw [h1] at he
              refine Looks.wp s ⟨_, exec_val he ?_, g2⟩ (fun a' w' hs => hn a' w' ν hs)
              unfold Instr.field
              simp only [Sem.run_bind, run_underlying h3, Result.andThen_ok, h5, asAgg, Sem.run_pure]
              exact run_part k' g1
          · cases hf
        · cases hf
      · cases hf
    · cases hf
  case box t x =>
    simp only [opFun] at hf
    split at hf
    · rename_i ti ht
      split at hf
      · rename_i cs hc
        simp only [Option.some.injEq, Prod.mk.injEq] at hf
        obtain ⟨rfl, rfl, rfl⟩ := hf
        obtain ⟨h1, _, _, _⟩ := cellsOf_ok (ev_ok s x) hc (tabB_ok hT ht).one
        obtain ⟨ν', hs⟩ := s.box (t := t) (t' := t) h1 o.dst
        have he : execOp a.eval o = (do pure (Next.value (← Instr.box t (a.eval x)))) := by unfold execOp; rw [hop]
        exact wp_value (exec_val he rfl) (hn _ _ ν' hs)
      · cases hf
    · cases hf
  case alloc t =>
    simp only [opFun] at hf
    split at hf
    · rename_i ti ht
      simp only [Option.some.injEq, Prod.mk.injEq] at hf
      obtain ⟨rfl, rfl, rfl⟩ := hf
      obtain ⟨z, h1, h2, _⟩ := run_zero (w := w) (tabB_ok hT ht)
      obtain ⟨ν', hs⟩ := s.box (t := t) (t' := t) (arr := z.cells) (zerosB_ok h2) o.dst
      have he : execOp a.eval o = (do pure (Next.value (← Instr.alloc t true (.tuple #[])))) := by unfold execOp; rw [hop]
      refine wp_value (exec_val he ?_) (hn _ _ ν' hs)
      unfold Instr.alloc
      simp only [Sem.run_bind, h1, Result.andThen_ok]
      rfl
    · cases hf
  case build t parts =>
    simp only [opFun] at hf
    split at hf
    · rename_i ti ht
      split at hf
      · rename_i fs hk
        cases hall : fs.all (fun p => (look T p.2).isSome) <;> rw [hall] at hf
        · cases hf
        · simp only [cond_true] at hf
          cases hfl : fillA fs T ti.zero (parts.toList.map fun p => (p.1, ev σ p.2)) with
          | none => rw [hfl] at hf; cases hf
          | some cs =>
            rw [hfl] at hf
            simp only [Option.map_some, Option.some.injEq, Prod.mk.injEq] at hf
            obtain ⟨rfl, rfl, rfl⟩ := hf
            obtain ⟨p1, p2⟩ := parts_rv s parts
            obtain ⟨ys, h1, h2⟩ := build_ok (w := w) hT ht hk hall hfl p1 p2
            have he : execOp a.eval o = (do pure (Next.value (← Instr.build t (parts.map fun (i, x) => (i, a.eval x))))) := by unfold execOp; rw [hop]
            refine Looks.wp s ⟨.agg ys, exec_val he h1, ?_⟩ (fun a' w' hs => hn a' w' ν hs)
            have : ys = ys.toList.toArray := by simp
            rw [this]
            exact .agg _ h2 .nil
      · rename_i m e hk
        split at hf
        · rename_i te hte
          cases hfl : fillA (arrF te.size e m) T ti.zero (parts.toList.map fun p => (p.1, ev σ p.2)) with
          | none => rw [hfl] at hf; cases hf
          | some cs =>
            rw [hfl] at hf
            simp only [Option.map_some, Option.some.injEq, Prod.mk.injEq] at hf
            obtain ⟨rfl, rfl, rfl⟩ := hf
            obtain ⟨p1, p2⟩ := parts_rv s parts
            obtain ⟨ys, h1, h2⟩ := build_arr (w := w) hT ht hk hte hfl p1 p2
            have he : execOp a.eval o = (do pure (Next.value (← Instr.build t (parts.map fun (i, x) => (i, a.eval x))))) := by unfold execOp; rw [hop]
            refine Looks.wp s ⟨.agg ys, exec_val he h1, ?_⟩ (fun a' w' hs => hn a' w' ν hs)
            have : ys = ys.toList.toArray := by simp
            rw [this]
            exact .agg _ h2 .nil
        · cases hf
      · cases hf
    · cases hf
  case makeMap t r =>
    simp only [opFun] at hf
    split at hf
    · rename_i ti ht
      split at hf
      · rename_i kt vt hk
        split at hf
        · rename_i tk htk
          simp only [Option.some.injEq, Prod.mk.injEq] at hf
          obtain ⟨rfl, rfl, rfl⟩ := hf
          have he : execOp a.eval o = (do pure (Next.value (← Instr.makeMap t (Option.map a.eval none)))) := by unfold execOp; rw [hop]
          have hs := s.new (val := .map (some w.heap.size)) (Kp.alloc w (.map #[] 0)) (by simp [undef]) (fun b hb => by
              simp only [vblk, Option.some.injEq] at hb; subst hb; rw [size_alloc]; omega) (o := .map t tk.kind []) (fun m hν => ⟨w.heap.size, #[], 0, by simp [upd], heap_push_new w _, .nil⟩) o.dst (r := .mapr h.nx) (v := .map (some w.heap.size)) (.mapr (by simp [upd]) .nil)
          exact wp_value (exec_val he rfl) (hn _ _ _ hs)
        · cases hf
      · cases hf
    · cases hf
  case buildSlice t len parts =>
    simp only [opFun] at hf
    split at hf
    · rename_i ti ht
      split at hf
      · rename_i e hk
        split at hf
        · rename_i te hte
          have hu := slice_of (tabB_ok hT ht) hk
          have ke := tabB_ok hT hte
          have he : execOp a.eval o = (do pure (Next.value (← Instr.buildSlice t len (parts.map fun (i, x) => (i, a.eval x))))) := by unfold execOp; rw [hop]
          cases h0 : Nat.beq len 0 <;> rw [h0] at hf
          · simp only [cond_false] at hf
            cases hc : (Nat.beq parts.toList.length len && Nat.ble (len * te.size) 16777216 && Nat.ble 1 te.size) <;> rw [hc] at hf
            · cases hf
            · simp only [cond_true] at hf
              simp only [Bool.and_eq_true] at hc
              obtain ⟨⟨c1, c2⟩, c3⟩ := hc
              have c1 := Nat.eq_of_beq_eq_true c1
              have c2 := Nat.le_of_ble_eq_true c2
              have c3 := Nat.le_of_ble_eq_true c3
              have h0' : len ≠ 0 := fun e => by rw [e] at h0; cases h0
              split at hf
              · rename_i rows hrows
                generalize hq : pubs (AV.ownsL (parts.toList.map fun p => ev σ p.2)) h.objs = q at hf
                obtain ⟨l, m'⟩ := q
                simp only [Option.some.injEq, Prod.mk.injEq] at hf
                obtain ⟨rfl, rfl, rfl⟩ := hf
                obtain ⟨p1, p2⟩ := parts_rv s parts
                have p2' : Rv w (nN N0 ν) ν (parts.toList.map fun p => ev σ p.2) (((parts.map fun (i, x) => (i, a.eval x)).toList).map (·.2)) := by
                  have : (parts.toList.map fun p => (p.1, ev σ p.2)).map (·.2) = parts.toList.map fun p => ev σ p.2 := by simp
                  rw [← this]; exact p2
                obtain ⟨ν', s', g1, g2⟩ := St.pubs (ν := ν) (x := h.nx) (y := h.lo) _ s hq
                have hsub : ∀ b, nN N0 ν' b → nN N0 ν b := by
                  rintro b (g | ⟨j, g⟩)
                  · exact .inl g
                  · rcases g1 j with e | e
                    · exact .inr ⟨j, by rw [← e]; exact g⟩
                    · rw [e] at g; simp [vblk, undef] at g
                have hview : Rv w (nN N0 ν') ν' (AV.viewL h.objs (parts.toList.map fun p => ev σ p.2)) (((parts.map fun (i, x) => (i, a.eval x)).toList).map (·.2)) := by
                  refine view_ok s.hp hsub p2' (fun id hid b hb hrow g => ?_)
                  have hu := g2 id hid hrow
                  rcases g with g | ⟨j, g⟩
                  · exact s.hp.dis id b hb g
                  · rcases g1 j with e | e
                    · have hj : j = id := s.hp.inj j id b (by rw [← e]; exact g) hb
                      subst hj
                      rw [hu] at g
                      simp [vblk, undef] at g
                    · rw [e] at g; simp [vblk, undef] at g
                rw [viewL_map] at hview
                have hview' : Rv w (nN N0 ν') ν' ((parts.toList.map fun p => (p.1, ev σ p.2)).map (fun p => AV.view h.objs p.2)) (((parts.map fun (i, x) => (i, a.eval x)).toList).map (·.2)) := by
                  have : (parts.toList.map fun p => (p.1, ev σ p.2)).map (fun p => AV.view h.objs p.2) = (parts.toList.map fun p => ev σ p.2).map (AV.view h.objs) := by simp
                  rw [this]; exact hview
                obtain ⟨z, z1, z2, z3⟩ := run_zero (w := w) ke
                have hpl : (parts.toList.map fun p => (p.1, ev σ p.2)).length = len := by simpa using c1
                obtain ⟨ys, new, r1, r2, r3, r4, r5⟩ := rowsOf_ok (xs := []) ke.one (cells := (Array.range (len * te.size)).map (z.cells[· % z.cells.size]!)) hrows p1 hview' (by rw [hpl]; simp)
                rw [hpl] at r4 r5
                have hys : ys.toList = new := by
                  rw [r5]
                  simp
                have hnewlen : new.length = rows.flatten.length := r2.length
                have hk : Kp (fun _ => False) w (w.alloc (.cells ys e)) := Kp.alloc w _
                refine wp_value (w' := w.alloc (.cells ys e)) (v := .slice (some ⟨w.heap.size, 0, none⟩) len len) (exec_val he ?_) (hn _ _ ν' (s'.seen hk o.dst ?_))
                · unfold Instr.buildSlice
                  simp only [Sem.run_bind, run_underlying hu, Result.andThen_ok, run_sizeOf' ke]
                  rw [if_neg (show ¬ (len * te.size > 2 ^ 24) from by omega)]
                  have hne : ¬ (len * te.size = 0) := by
                    intro g
                    rcases Nat.mul_eq_zero.1 g with g | g
                    · exact h0' g
                    · omega
                  simp only [hne, if_false, Sem.run_bind, z1, Result.andThen_ok, Sem.run_pure, r1]
                  rfl
                · have hmv : Mv w (nN N0 ν') (w.alloc (.cells ys e)) (nN N0 ν') := ⟨hk.size, fun b hb hN => ⟨hN, heap_push_old w _ b hb⟩⟩
                  have e1 : len = rows.length := r4.symm
                  subst e1
                  refine .d (.list rows _ _ te.size new (r2.mv hmv) r3 (.inr ⟨w.heap.size, 0, rfl, ?_, fun j v hv => ?_⟩) (Nat.le_refl _) ?_ .nil) .nil
                  · rintro (g | ⟨j, g⟩)
                    · have := s'.hp.n0 _ g; omega
                    · have := s'.hp.bnd _ _ g; omega
                  · rw [← hys] at hv
                    simp only [World.cell?, heap_push_new, Nat.zero_add]
                    simpa using hv
                  · have : rows.length ≤ rows.length * te.size := Nat.le_mul_of_pos_right _ c3
                    unfold big; omega
              · cases hf
          · simp only [cond_true] at hf
            have h0' := Nat.eq_of_beq_eq_true h0
            subst h0'
            cases hc : (Nat.ble 1 te.size && parts.toList.isEmpty) <;> rw [hc] at hf
            · cases hf
            · simp only [cond_true, Option.some.injEq, Prod.mk.injEq] at hf
              obtain ⟨rfl, rfl, rfl⟩ := hf
              simp only [Bool.and_eq_true] at hc
              have c3 := Nat.le_of_ble_eq_true hc.1
              have hpe : parts = #[] := by simpa using hc.2
              subst hpe
              obtain ⟨ν', hs⟩ := s.newRow (Kp.alloc w (.cells #[] e)) (val := .slice (some ⟨w.heap.size, 0, none⟩) 0 0) (by simp [undef]) (fun b hb => by
                simp only [vblk, Option.some.injEq] at hb; subst hb; rw [size_alloc]; omega) (t := e) (sz := te.size) (rows := []) (cells := []) rfl .nil (by simp) (Nat.zero_le _) c3
                ⟨by simp, .inr ⟨w.heap.size, 0, #[], rfl, Nat.zero_le _, heap_push_new w _, Nat.le_refl _, Nat.zero_le _, by simp, by simp⟩⟩ o.dst
              refine wp_value (exec_val he ?_) (hn _ _ ν' hs)
              unfold Instr.buildSlice
              simp only [Sem.run_bind, run_underlying hu, Result.andThen_ok, run_sizeOf' ke, Nat.zero_mul]
              rw [if_neg (by decide)]
              have e0 : Array.range 0 = #[] := by apply Array.ext'; simp
              simp [Instr.fill, newRow, e0]
        · cases hf
      · cases hf
    · cases hf
  all_goals (simp only [opFun] at hf; cases hf)
end
end Go.Vc
