/- The soundness of what is computed. -/
import Derived.Test.YtcakciamoopkcaaGreatVcI
set_option linter.unusedVariables false
set_option linter.unusedSimpArgs false
namespace Go.Vc
section
variable {P : Program} {T : List (Nat × TI)} {N0 Nf : Nat → Prop} {w0 w w' : World} {n : Nat} {σ : Env} {h : Heap} {a : Act} {ν ν' ν0 : Nat → Value} {Q : Exit → Act → World → Prop} {next : Act → World → Prop}

theorem heap_push_new (w : World) (o : Obj) : (w.alloc o).heap[w.heap.size]? = some o := by
  show (w.heap.push o)[w.heap.size]? = _
  simp
theorem heap_push_old (w : World) (o : Obj) (i : Nat) (h : i < w.heap.size) : (w.alloc o).heap[i]? = w.heap[i]? := by
  show (w.heap.push o)[i]? = w.heap[i]?
  rw [Array.getElem?_push, if_neg (Nat.ne_of_lt h)]
theorem size_alloc (w : World) (o : Obj) : (w.alloc o).heap.size = w.heap.size + 1 := by
  show (w.heap.push o).size = _
  simp
theorem Kp.alloc (w : World) (o : Obj) : Kp (fun _ => False) w (w.alloc o) :=
  ⟨rfl, rfl, rfl, by rw [size_alloc]; omega, fun b hb _ => heap_push_old w o b hb⟩

theorem viewL_map (l : List (Nat × AO)) : ∀ as : List AV, AV.viewL l as = as.map (AV.view l)
  | [] => by simp only [AV.viewL]; rfl
  | a :: as => by simp only [AV.viewL, viewL_map l as]; rfl

/-- a new block of cells -/
theorem St.box (s : St N0 w0 Nf n ν0 σ h a w ν) {t t' : TypeId} {cs : List AV} {arr : Array Value} (hr : Rv w (nN N0 ν) ν cs arr.toList) (d : Option Nat) :
    ∃ ν', St N0 w0 Nf n ν0 (σ.putO n d (.ptr h.nx 0)) (h.new (.cells t cs)) (a.put d (.pointer (some ⟨w.heap.size, 0, none⟩))) (w.alloc (.cells arr t')) ν' := by
  refine ⟨_, s.new (val := .pointer (some ⟨w.heap.size, 0, none⟩)) (Kp.alloc w _) (by simp [undef]) (fun b hb => ?_) (fun m hν => ?_) d ?_⟩
  · simp only [vblk, Option.some.injEq] at hb
    subst hb
    rw [size_alloc]; omega
  · exact ⟨w.heap.size, arr, t', by simp [upd], heap_push_new w _, hr.mv m hν⟩
  · exact .ptr 0 (by simp [upd]) .nil

theorem exec_val {ρ : Operand → Value} {o : Oper} {S : Sem Value} {v : Value} (he : execOp ρ o = (do pure (Next.value (← S)))) (hr : S.run P w = .ok v w') : (execOp ρ o).run P w = .ok (.value v) w' := by
  rw [he]
  simp only [Sem.run_bind, hr, Result.andThen_ok, Sem.run_pure]

theorem bin_looks (hT : tabB P T = true) (s : St N0 w0 Nf n ν0 σ h a w ν) {o : Oper} {op : BinOp} {xt yt : TypeId} {x y : Operand} {d : D} (hop : o.op = .binOp op xt x y yt) (hb : bin T xt op (norm (ev σ x)) (norm (ev σ y)) = some d) :
    Looks P a w (nN N0 ν) ν o (.d d) := by
  have hx := norm_rv (ev_ok s x)
  have hy := norm_rv (ev_ok s y)
  have he : execOp a.eval o = (do pure (Next.value (← (do eqGuard op xt x y (a.eval x) (a.eval y); binOp op xt (a.eval x) (a.eval y))))) := by unfold execOp; rw [hop]
  unfold bin at hb
  split at hb
  · rename_i k p k' q e1 e2
    rw [e1] at hx; rw [e2] at hy
    rw [rv_int hx, rv_int hy] at he
    cases hk : kindEq k k' <;> rw [hk] at hb
    · cases hb
    · rw [kindEq_iff] at hk
      subst hk
      obtain ⟨v, h1, h2⟩ := binInt_ok (P := P) (w := w) hb xt
      refine ⟨v, exec_val he ?_, h2 _ _⟩
      simp only [Sem.run_bind, eqGuard_plain op xt x y (.int k p) (.int k q) (by simp) (by simp), Result.andThen_ok, h1]
  · rename_i p q e1 e2
    rw [e1] at hx; rw [e2] at hy
    rw [(rv_str hx).1, (rv_str hy).1] at he
    obtain ⟨v, h1, h2⟩ := binStr_ok (P := P) (w := w) hb xt
    refine ⟨v, exec_val he ?_, h2 _ _⟩
    simp only [Sem.run_bind, eqGuard_plain op xt x y (.string (mkS p)) (.string (mkS q)) (by simp) (by simp), Result.andThen_ok, h1]
  · rename_i p q e1 e2
    rw [e1] at hx; rw [e2] at hy
    rw [rv_bool hx, rv_bool hy] at he
    split at hb
    · rename_i ti ht
      split at hb
      · rename_i hk
        obtain ⟨v, h1, h2⟩ := binBool_ok (P := P) (w := w) (bool_of (tabB_ok hT ht) hk) hb
        refine ⟨v, exec_val he ?_, h2 _ _⟩
        simp only [Sem.run_bind, eqGuard_plain op xt x y (.bool p) (.bool q) (by simp) (by simp), Result.andThen_ok, h1]
      · cases hb
    · cases hb
  · cases hb

theorem load_looks (hT : tabB P T = true) (s : St N0 w0 Nf n ν0 σ h a w ν) {o : Oper} {t : TypeId} {x : Operand} {r : AV} {h' : Heap} {m : Rn} (hop : o.op = .load t x) (hf : opFun T (ev σ) h (.load t x) = some (r, h', m)) :
    h' = h ∧ m = .sub [] ∧ Looks P a w (nN N0 ν) ν o r := by
  have hx := ev_ok s x
  unfold opFun at hf
  simp only at hf
  split at hf
  · rename_i ti ht
    have k := tabB_ok hT ht
    have fin : ∀ (b off : Nat) (cells : List Value) (v : Value), a.eval x = .pointer (some ⟨b, off, none⟩) → (cells.take ti.size).length = ti.size → (∀ (j : Nat) u, cells[j]? = some u → w.cell? ⟨b, off + j, none⟩ = some u) →
        v = (if ti.isAgg then .agg (cells.take ti.size).toArray else (cells.take ti.size).getD 0 undef) → (execOp a.eval o).run P w = .ok (.value v) w := by
      intro b off cells v he hlen hc hv
      have hx : execOp a.eval o = (do pure (Next.value (← Instr.loadAt t (a.eval x)))) := by unfold execOp; rw [hop]
      refine exec_val hx ?_
      simp only [Instr.loadAt, he, Instr.sureAddr, Sem.run_bind, Sem.run_pure, Result.andThen_ok]
      rw [run_loadVar' k b off (cells.take ti.size) hlen (fun j u hu => hc j u (by rw [List.getElem?_take] at hu; split at hu; exact hu; cases hu)), ← hv]
    split at hf
    · rename_i id off e
      rw [e] at hx
      obtain ⟨b, he, hν⟩ := rv_ptr hx
      split at hf
      · rename_i t' cs hl
        obtain ⟨b', arr, e', h1, h2, h3⟩ := s.hp.objs _ _ hl
        rw [hν] at h1
        obtain rfl : b = b' := by injection h1 with h1; injection h1 with h1; injection h1
        cases hq : loadL ti (cs.drop off) with
        | none => rw [hq] at hf; cases hf
        | some r' =>
          rw [hq] at hf
          simp only [Option.map_some, Option.some.injEq, Prod.mk.injEq] at hf
          obtain ⟨rfl, rfl, rfl⟩ := hf
          obtain ⟨g1, g2⟩ := loadL_ok k.one (h3.drop off) hq
          refine ⟨rfl, rfl, _, fin b off (arr.toList.drop off) _ he g1 (fun j u hu => ?_) rfl, g2⟩
          rw [List.getElem?_drop] at hu
          simpa [World.cell?, h2] using hu
      · cases hf
    · rename_i ds e
      rw [e] at hx
      obtain ⟨b, off, cells, he, h0, h1, h2, h3⟩ := rv_at hx
      cases hq : loadD ti ds with
      | none => rw [hq] at hf; cases hf
      | some r' =>
        rw [hq] at hf
        simp only [Option.map_some, Option.some.injEq, Prod.mk.injEq] at hf
        obtain ⟨rfl, rfl, rfl⟩ := hf
        obtain ⟨g1, g2⟩ := loadD_ok k.one h2 hq
        exact ⟨rfl, rfl, _, fin b off cells _ he g1 h3 rfl, g2⟩
    · rename_i id i sz off e
      rw [e] at hx
      obtain ⟨b, mm, c, he, hν, hi⟩ := rv_rptr hx
      split at hf
      · rename_i t' sz' rows hl
        cases hs : Nat.beq sz sz' <;> rw [hs] at hf
        · cases hf
        · have := Nat.eq_of_beq_eq_true hs
          subst this
          simp only [cond_true] at hf
          split at hf
          · rename_i row hrow
            obtain ⟨A, c', cells, h1, h2, h3, h4, h5, h6⟩ := s.hp.objs _ _ hl
            rw [hν] at h1
            injection h1 with e1 e2 e3
            subst e1 e2 e3
            rcases h6.2 with ⟨g, _⟩ | ⟨g, cap, cur, g1, _, g2, g3, _, g4, g5⟩
            · rw [hν] at g; cases g
            · rw [hν] at g1
              injection g1 with e1 e2 e3
              injection e1 with e1
              injection e1 with e1
              subst e1
              cases hq : loadD ti (row.drop off) with
              | none => rw [hq] at hf; cases hf
              | some r' =>
                rw [hq] at hf
                simp only [Option.map_some, Option.some.injEq, Prod.mk.injEq] at hf
                obtain ⟨rfl, rfl, rfl⟩ := hf
                have hsplit : rows.flatten = (rows.take i).flatten ++ (row ++ (rows.drop (i + 1)).flatten) := by
                  have hd : rows.drop i = row :: rows.drop (i + 1) := by
                    have hlt : i < rows.length := (List.getElem?_eq_some_iff.1 hrow).1
                    rw [List.drop_eq_getElem_cons hlt, (List.getElem?_eq_some_iff.1 hrow).2]
                  conv => lhs; rw [← List.take_append_drop i rows, List.flatten_append, hd, List.flatten_cons]
                have h2' : Rd w (nN N0 ν) ((rows.take i).flatten ++ (row ++ (rows.drop (i + 1)).flatten)) cells := by rw [← hsplit]; exact h2
                obtain ⟨c1, c2, rfl, k1, k2⟩ := Rd.split h2'
                obtain ⟨c3, c4, rfl, k3, k4⟩ := Rd.split k2
                have hc1 : c1.length = i * sz := by
                  rw [k1.length]
                  have : ∀ (l : List (List D)), (∀ r ∈ l, r.length = sz) → l.flatten.length = l.length * sz := by
                    intro l hl
                    induction l with
                    | nil => simp
                    | cons r l ih => simp only [List.flatten_cons, List.length_append, List.length_cons]; rw [hl r List.mem_cons_self, ih (fun x hx => hl x (List.mem_cons_of_mem _ hx)), Nat.add_mul]; omega
                  rw [this _ (fun r hr => h3 r (List.mem_of_mem_take hr)), List.length_take]
                  rw [Nat.min_eq_left (by omega)]
                obtain ⟨g6, g7⟩ := loadD_ok (ν := ν) k.one (k3.drop off) hq
                refine ⟨rfl, rfl, _, fin b (i * sz + off) (c3.drop off) _ he g6 (fun j u hu => ?_) rfl, g7⟩
                rw [List.getElem?_drop] at hu
                have hcur : cur.toList[i * sz + (off + j)]? = some u := by
                  have hlt : off + j < c3.length := by
                    rcases Nat.lt_or_ge (off + j) c3.length with g | g
                    · exact g
                    · rw [List.getElem?_eq_none g] at hu; cases hu
                  have : (c1 ++ (c3 ++ c4))[i * sz + (off + j)]? = some u := by
                    rw [List.getElem?_append_right (by omega), hc1, Nat.add_sub_cancel_left, List.getElem?_append_left hlt]
                    exact hu
                  rw [← g5, List.getElem?_take] at this
                  split at this
                  · exact this
                  · cases this
                simp only [World.cell?, g2]
                rw [Nat.add_assoc]
                simpa using hcur
          · cases hf
      · cases hf
    · cases hf
  · cases hf
end
end Go.Vc
