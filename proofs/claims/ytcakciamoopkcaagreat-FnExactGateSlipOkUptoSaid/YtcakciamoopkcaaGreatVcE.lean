/- What single operations do: those that only look, and those that make something new. -/
import Derived.Test.YtcakciamoopkcaaGreatVcD
set_option linter.unusedVariables false
set_option linter.unusedSimpArgs false
namespace Go.Vc

theorem wp_value {P : Program} {o : Oper} {a : Act} {w w' : World} {v : Value} {next : Act → World → Prop} {Q : Exit → Act → World → Prop}
    (hr : (execOp a.eval o).run P w = .ok (.value v) w') (h : next (a.put o.dst v) w') : o.wp P a w next Q := by
  unfold Oper.wp; rw [hr]; exact h
theorem wp_skip' {P : Program} {o : Oper} {a : Act} {w w' : World} {next : Act → World → Prop} {Q : Exit → Act → World → Prop}
    (hr : (execOp a.eval o).run P w = .ok .skip w') (h : next (a.put o.dst undef) w') : o.wp P a w next Q := by
  unfold Oper.wp; rw [hr]; exact h
theorem wp_enter {P : Program} {o : Oper} {a : Act} {w w' : World} {f : FuncId} {args : Array Value} {next : Act → World → Prop} {Q : Exit → Act → World → Prop}
    (hr : (execOp a.eval o).run P w = .ok (.enter f args) w') (h : Calls P f args w' fun e w'' => ∃ v, e = .returned v ∧ next (a.put o.dst v) w'') : o.wp P a w next Q := by
  unfold Oper.wp; rw [hr]
  exact h.mono fun e w'' ⟨v, he, hn⟩ => by subst he; exact hn

section
variable {P : Program} {T : List (Nat × TI)} {S : Specs} {N0 Nf : Nat → Prop} {w0 w : World} {n : Nat} {σ : Env} {h : Heap} {a : Act} {ν ν0 : Nat → Value} {Q : Exit → Act → World → Prop} {next : Act → World → Prop}

theorem mkS_toList (s : ByteArray) : mkS s.data.toList = s := by
  obtain ⟨⟨l⟩⟩ := s; rfl
theorem mkS_list (s : Bs) : (mkS s).data.toList = s := rfl

theorem cst_ok {N : Nat → Prop} (v : Value) : Rv w N ν [cst v] [v] := by
  unfold cst
  split
  · exact .d (.int _ _ .nil) .nil
  · rename_i s
    split
    · rename_i e
      have := mkS_toList s
      rw [e] at this
      rw [← this]
      exact .d (.str _ (Nat.zero_le _) .nil) .nil
    · rename_i c r e
      cases hb : Nat.ble (c :: r).length big with
      | true =>
        simp only [cond_true]
        have := mkS_toList s
        rw [e] at this
        rw [← this]
        exact .d (.str _ (Nat.le_of_ble_eq_true hb) .nil) .nil
      | false => exact .any _ .nil
  · exact .nils .nil
  · exact .val _ .nil

theorem norm_rv {N : Nat → Prop} {a : AV} {v : Value} (h : Rv w N ν [a] [v]) : Rv w N ν [norm a] [v] := by
  unfold norm
  split
  · cases h; exact .d (.bool _ .nil) .nil
  · exact h
theorem norm_rvs {N : Nat → Prop} : ∀ {as : List AV} {vs : List Value}, Rv w N ν as vs → Rv w N ν (as.map norm) vs
  | [], _, h => by cases h; exact .nil
  | a :: as, vs, h => by
    obtain ⟨v, r, rfl, h1, h2⟩ := h.cons_inv
    exact (norm_rv h1).cons (norm_rvs h2)
theorem rv_val {N : Nat → Prop} {u v : Value} (h : Rv w N ν [.val u] [v]) : v = u := by
  cases h; rfl
theorem ev_ok (s : St N0 w0 Nf n ν0 σ h a w ν) (x : Operand) : Rv w (nN N0 ν) ν [ev σ x] [a.eval x] := by
  cases x with
  | tmp t => exact s.slots t
  | const v => exact cst_ok v
  | func f => exact .fn (cs := []) f [] .nil .nil
  | global g => exact .any _ .nil
theorem evs_ok (s : St N0 w0 Nf n ν0 σ h a w ν) : ∀ (xs : List Operand), Rv w (nN N0 ν) ν (xs.map (ev σ)) (xs.map a.eval)
  | [] => .nil
  | x :: xs => (ev_ok s x).cons (evs_ok s xs)

variable {N : Nat → Prop}
theorem rv_bool {b : Bool} {v : Value} (h : Rv w N ν [.d (.bool b)] [v]) : v = .bool b := by
  cases h with | d h _ => cases h; rfl
theorem rv_int {k : IntKind} {m : Int} {v : Value} (h : Rv w N ν [.d (.int k m)] [v]) : v = .int k m := by
  cases h with | d h _ => cases h; rfl
theorem rv_str {s : Bs} {v : Value} (h : Rv w N ν [.d (.str s)] [v]) : v = .string (mkS s) ∧ s.length ≤ big := by
  cases h with | d h _ => cases h with | str _ h _ => exact ⟨rfl, h⟩
theorem rv_list {rows : List (List D)} {v : Value} (h : Rv w N ν [.d (.list rows)] [v]) : ∃ A cap sz cells, v = .slice A rows.length cap ∧ Rd w N rows.flatten cells ∧ (∀ r ∈ rows, r.length = sz) ∧ Placed w N A cells ∧
    rows.length ≤ cap ∧ rows.length ≤ big := by
  cases h with | d h _ => cases h with | list _ A cap sz cells h1 h2 h3 h4 h5 _ => exact ⟨A, cap, sz, cells, rfl, h1, h2, h3, h4, h5⟩
theorem rv_agg {cs : List AV} {v : Value} (h : Rv w N ν [.agg cs] [v]) : ∃ xs : List Value, v = .agg xs.toArray ∧ Rv w N ν cs xs := by
  cases h with | agg xs h _ => exact ⟨xs, rfl, h⟩
theorem rv_tup {cs : List AV} {v : Value} (h : Rv w N ν [.tup cs] [v]) : ∃ xs : List Value, v = .tuple xs.toArray ∧ Rv w N ν cs xs := by
  cases h with | tup xs h _ => exact ⟨xs, rfl, h⟩
theorem rv_ptr {id off : Nat} {v : Value} (h : Rv w N ν [.ptr id off] [v]) : ∃ b, v = .pointer (some ⟨b, off, none⟩) ∧ ν id = .pointer (some ⟨b, 0, none⟩) := by
  cases h with | ptr off h _ => exact ⟨_, rfl, h⟩
theorem rv_at {ds : List D} {v : Value} (h : Rv w N ν [.at_ ds] [v]) : ∃ b o cells, v = .pointer (some ⟨b, o, none⟩) ∧ cells ≠ [] ∧ ¬ N b ∧ Rd w N ds cells ∧
    ∀ (j : Nat) v, cells[j]? = some v → w.cell? ⟨b, o + j, none⟩ = some v := by
  cases h with
  | at_ A cells h0 h1 h2 _ =>
    rcases h2 with h2 | ⟨b, o, h2, h3, h4⟩
    · exact absurd h2 h0
    · obtain rfl : A = ⟨b, o, none⟩ := by injection h2
      exact ⟨b, o, cells, rfl, h0, h3, h1, h4⟩
theorem rv_rptr {id i sz off : Nat} {v : Value} (h : Rv w N ν [.rptr id i sz off] [v]) : ∃ b m c, v = .pointer (some ⟨b, i * sz + off, none⟩) ∧ ν id = .slice (some ⟨b, 0, none⟩) m c ∧ i < m := by
  cases h with | rptr i off sz h hi _ => exact ⟨_, _, _, rfl, h, hi⟩
theorem rv_own {id : Nat} {v : Value} (h : Rv w N ν [.own id] [v]) : v = ν id ∧ ∃ A m c, ν id = .slice A m c := by
  cases h with | own h _ => exact ⟨h.symm, _, _, _, h⟩
theorem rv_fn {f : FuncId} {cs : List AV} {v : Value} (h : Rv w N ν [.fn f cs] [v]) : ∃ xs : List Value, v = .func (.func f) #[] xs.toArray ∧ Rv w N ν cs xs := by
  cases h with | fn f xs h _ => exact ⟨xs, rfl, h⟩
theorem rv_iface {t : TypeId} {x : AV} {v : Value} (h : Rv w N ν [.iface t x] [v]) : ∃ u, v = .iface t u ∧ Rv w N ν [x] [u] := by
  cases h with | iface t h _ => exact ⟨_, rfl, h⟩
theorem rv_nils {v : Value} (h : Rv w N ν [.nils] [v]) : v = .slice none 0 0 := by
  cases h; rfl

/-- the cells of a value of a type -/
theorem cellsOf_ok {ti : TI} {x : AV} {v : Value} {cs : List AV} (h : Rv w N ν [x] [v]) (hc : cellsOf ti x = some cs) (h1 : ti.isAgg = false → ti.size = 1) :
    Rv w N ν cs v.cells.toList ∧ v.cells.size = ti.size ∧ cs.length = ti.size ∧ ∀ u ∈ v.cells.toList, u.oneCell' = true := by
  unfold cellsOf at hc
  split at hc
  · rename_i cs'
    cases hag : ti.isAgg <;> rw [hag] at hc
    · cases hc
    · simp only [cond_true] at hc
      cases hb : (Nat.beq cs'.length ti.size && oneL cs') <;> rw [hb] at hc
      · cases hc
      · simp only [cond_true, Option.some.injEq] at hc
        subst hc
        obtain ⟨xs, rfl, hx⟩ := rv_agg h
        simp only [Bool.and_eq_true] at hb
        have e := Nat.eq_of_beq_eq_true hb.1
        have hl := hx.length
        exact ⟨by simpa [Value.cells] using hx, by simp [Value.cells, hl, e], e, by simpa [Value.cells] using hx.oneL hb.2⟩
  · cases hag : ti.isAgg <;> rw [hag] at hc
    · simp only [cond_false] at hc
      cases ho : x.one <;> rw [ho] at hc
      · cases hc
      · simp only [cond_true, Option.some.injEq] at hc
        subst hc
        have hv := h.oneCell ho
        have : v.cells = #[v] := by cases v <;> first | rfl | simp [Value.oneCell'] at hv
        rw [this]
        refine ⟨by simpa using h, by simp [h1 hag], by simp [h1 hag], by simpa using hv⟩
    · cases hc

theorem loadL_ok {ti : TI} (k : ti.isAgg = false → ti.size = 1) {cs : List AV} {xs : List Value} (h : Rv w N ν cs xs) {r : AV} (hl : loadL ti cs = some r) :
    (xs.take ti.size).length = ti.size ∧ Rv w N ν [r] [if ti.isAgg then .agg (xs.take ti.size).toArray else (xs.take ti.size).getD 0 undef] := by
  unfold loadL at hl
  have hlen := h.length
  cases hag : ti.isAgg <;> rw [hag] at hl
  · simp only [cond_false] at hl
    cases cs with
    | nil => cases hl
    | cons c cs =>
      obtain ⟨v, r', rfl, h1, _⟩ := h.cons_inv
      simp only [List.head?_cons, Option.some.injEq] at hl
      subst hl
      have := k hag
      simp [this]
      exact h1
  · simp only [cond_true] at hl
    cases hb : Nat.ble ti.size cs.length <;> rw [hb] at hl
    · cases hl
    · simp only [cond_true, Option.some.injEq] at hl
      subst hl
      have hb' := Nat.le_of_ble_eq_true hb
      exact ⟨by simp; omega, by simp only [if_true]; exact .agg _ (h.take _) .nil⟩
theorem loadD_ok {ti : TI} (k : ti.isAgg = false → ti.size = 1) {cs : List D} {xs : List Value} (h : Rd w N cs xs) {r : AV} (hl : loadD ti cs = some r) :
    (xs.take ti.size).length = ti.size ∧ Rv w N ν [r] [if ti.isAgg then .agg (xs.take ti.size).toArray else (xs.take ti.size).getD 0 undef] := by
  have hv : Rv w N ν (cs.map .d) xs := Rv.ofRd h
  refine loadL_ok k hv ?_
  unfold loadD at hl
  unfold loadL
  simpa [List.map_take] using hl
end
end Go.Vc
