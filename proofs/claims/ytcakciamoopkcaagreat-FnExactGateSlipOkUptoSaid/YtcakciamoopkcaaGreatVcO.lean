/- make, and the condition of an operation as a whole. -/
import Derived.Test.YtcakciamoopkcaaGreatVcNm
import Derived.Laws.MakeOwn
set_option linter.unusedVariables false
set_option linter.unusedSimpArgs false
namespace Go.Vc

theorem madeCells_flat (z : Array Value) : ∀ n, (madeCells z (n * z.size)).toList = (List.replicate n z.toList).flatten
  | 0 => by simp [madeCells]
  | n + 1 => by
    have ih := madeCells_flat z n
    simp only [madeCells, Array.toList_map, Array.toList_range] at ih ⊢
    rw [Nat.add_mul, Nat.one_mul, List.range_add, List.map_append, ih, List.map_map]
    have e : (List.range z.size).map ((fun x => z[x % z.size]!) ∘ (fun x => n * z.size + x)) = z.toList := by
      apply List.ext_getElem?
      intro j
      simp only [List.getElem?_map, List.getElem?_range, Function.comp_apply]
      by_cases hj : j < z.size
      · rw [List.getElem?_range hj]
        simp only [Option.map_some]
        have : (n * z.size + j) % z.size = j := by
          rw [Nat.mul_comm, Nat.mul_add_mod]
          exact Nat.mod_eq_of_lt hj
        simp only [Function.comp_apply, this]
        simp [hj]
      · rw [List.getElem?_eq_none (by simp; omega), List.getElem?_eq_none (by simp; omega)]
        rfl
    rw [e, List.replicate_succ', List.flatten_append]
    simp
theorem madeCells_take (z : Array Value) {l n : Nat} (h : l ≤ n) : (madeCells z (n * z.size)).toList.take (l * z.size) = (List.replicate l z.toList).flatten := by
  obtain ⟨k, rfl⟩ := Nat.exists_eq_add_of_le h
  rw [madeCells_flat, ← List.replicate_append_replicate, List.flatten_append]
  have : (List.replicate l z.toList).flatten.length = l * z.size := by simp
  rw [← this]
  exact List.take_left
theorem rd_replicate {w : World} {N : Nat → Prop} {z : List D} {cs : List Value} (h : Rd w N z cs) : ∀ n, Rd w N (List.replicate n z).flatten (List.replicate n cs).flatten
  | 0 => .nil
  | n + 1 => by simp only [List.replicate_succ, List.flatten_cons]; exact h.append (rd_replicate h n)

section
variable {P : Program} {T : List (Nat × TI)} {N0 Nf : Nat → Prop} {w0 w w' : World} {n : Nat} {σ : Env} {h : Heap} {a : Act} {ν ν' ν0 : Nat → Value} {Q : Exit → Act → World → Prop} {next : Act → World → Prop}
  {K : AV → Heap → Rn → Prop}

theorem makeSlice_sound (hT : tabB P T = true) (s : St N0 w0 Nf n ν0 σ h a w ν) {o : Oper} {t : TypeId} {x y : Operand} (hop : o.op = .makeSlice t x y) (hv : vcOp T (specs P) (ev σ) h (.makeSlice t x y) K)
    (hn : ∀ r h' m a' w' ν', K r h' m → St N0 w0 Nf n ν0 ((σ.ren m).putO n o.dst r) h' a' w' ν' → next a' w') : o.wp P a w next Q := by
  have hxx := ev_ok s x
  have hyy := ev_ok s y
  have he : execOp a.eval o = (do pure (Next.value (← Instr.makeSlice t (a.eval x) (a.eval y)))) := by unfold execOp; rw [hop]
  simp only [vcOp] at hv
  split at hv
  · rename_i ti hti
    split at hv
    · rename_i e hk
      split at hv
      · rename_i te hte
        split at hv
        · rename_i z l c hz e1 e2
          rw [e1] at hxx; rw [e2] at hyy
          obtain ⟨hb, h0, hlc, hcb, hv⟩ := hv
          simp only [Bool.and_eq_true] at hb
          obtain ⟨⟨b1, b2⟩, b3⟩ := hb
          have b1 := Nat.le_of_ble_eq_true b1
          have b2 : 0 < te.size := Nat.le_of_ble_eq_true b2
          have b3 := Nat.eq_of_beq_eq_true b3
          have k := tabB_ok hT hte
          have ht := slice_of (tabB_ok hT hti) hk
          obtain ⟨i, zv, hi, hs, hby, hzv, hzz, hzs, _⟩ := k.info
          unfold big at hcb
          have hbytes : (i.bytes : Int) * c ≤ 281474976710656 := by
            have h1 : (i.bytes : Int) ≤ 131072 := by omega
            have h2 : (i.bytes : Int) * c ≤ 131072 * c := Int.mul_le_mul_of_nonneg_right h1 (by omega)
            omega
          have hr := run_make (P := P) w t e i zv ht hi hzv .i64 .i64 l c h0 hlc hbytes (by omega)
          rw [rv_int hxx, rv_int hyy] at he
          have hcap : l.toNat ≤ c.toNat := by omega
          have hrd : Rd w (nN N0 ν) z zv.cells.toList := (zerosB_ok (w := w) (N := nN N0 ν) (ν := ν) hzz).dsOf hz
          have hsz : i.size = zv.cells.size := by omega
          obtain ⟨ν', hs'⟩ := s.newRow (Kp.alloc w (.cells (madeCells zv.cells (c.toNat * i.size)) e)) (val := .slice (some ⟨w.heap.size, 0, none⟩) l.toNat c.toNat) (by simp [undef]) (fun b hb => by
              simp only [vblk, Option.some.injEq] at hb; subst hb; rw [size_alloc]; omega) (t := e) (sz := te.size) (rows := List.replicate l.toNat z) (A := some ⟨w.heap.size, 0, none⟩) (c := c.toNat)
              (by simp) (rd_replicate hrd l.toNat) (fun r hr => by rw [List.eq_of_mem_replicate hr]; exact b3) (by simp [big]; omega) b2
              ⟨by simp [hzs], .inr ⟨w.heap.size, c.toNat, _, by simp, Nat.zero_le _, heap_push_new w _, by simpa using hcap, by unfold maxLen; omega, by rw [size_madeCells]; rw [hsz, hzs], by
                rw [List.length_replicate, ← hzs, hsz]; exact madeCells_take zv.cells hcap⟩⟩ o.dst
          exact wp_value (exec_val he hr) (hn _ _ (.sub []) _ _ ν' hv hs')
        · exact hv.elim
      · exact hv.elim
    · exact hv.elim
  · exact hv.elim

theorem call_sound (hT : tabB P T = true) (s : St N0 w0 Nf n ν0 σ h a w ν) {o : Oper} {c : Call} (hop : o.op = .call c) (hv : vcOp T (specs P) (ev σ) h (.call c) K)
    (hn : ∀ r h' m a' w' ν', K r h' m → St N0 w0 Nf n ν0 ((σ.ren m).putO n o.dst r) h' a' w' ν' → next a' w') : o.wp P a w next Q := by
  simp only [vcOp] at hv
  have harr : ∀ vs : List Value, (c.args.map a.eval ++ vs.toArray) = (c.args.toList.map a.eval ++ vs).toArray := fun vs => by apply Array.ext'; simp
  split at hv
  · rename_i f hc
    split at hv
    · rename_i g caps e
      have hf := ev_ok s f
      rw [e] at hf
      obtain ⟨xs, h1, h2⟩ := rv_fn hf
      refine vcCall_sound s ((evs_ok s c.args.toList).append h2) hv (fun he => ?_) hn
      rw [run_call_fn hop hc h1 he, harr]
    · exact hv.elim
  · rename_i x name hc
    split at hv
    · rename_i t v e
      have hf := ev_ok s x
      rw [e] at hf
      obtain ⟨u, h1, h2⟩ := rv_iface hf
      split at hv
      · rename_i ti hti
        have key : ti.kind ≠ .ptr → (match ti.meths.lookup name with | some f => vcCall (specs P) f (v :: c.args.toList.map (ev σ)) h K | none => False) → o.wp P a w next Q := by
          intro hp hv
          split at hv
          · rename_i f hm
            refine vcCall_sound s (h2.cons (evs_ok s c.args.toList)) hv (fun he => ?_) hn
            rw [run_call_invoke hop hc h1 (tabB_ok hT hti) hp hm he]
            congr 2
            apply Array.ext'; simp
          · exact hv.elim
        split at hv
        · exact hv.elim
        · rename_i hp; exact key hp hv
      · exact hv.elim
    · exact hv.elim
  · rename_i hc
    split at hv
    · rename_i x t e1 e2
      split at hv
      · rename_i ti hti
        exact vcLen_sound hT s hop hc e1 e2 hti hv hn
      · exact hv.elim
    · exact hv.elim
  · rename_i hc
    split at hv
    · rename_i x y t t2 e1 e2
      exact vcAppend_sound hT s hop hc e1 e2 hv hn
    · exact hv.elim
  · exact hv.elim

/-- ONE OPERATION. -/
theorem vcOp_sound (hT : tabB P T = true) (s : St N0 w0 Nf n ν0 σ h a w ν) {o : Oper} (hv : vcOp T (specs P) (ev σ) h o.op K)
    (hn : ∀ r h' m a' w' ν', K r h' m → St N0 w0 Nf n ν0 ((σ.ren m).putO n o.dst r) h' a' w' ν' → next a' w') : o.wp P a w next Q := by
  have rest : (match opFun T (ev σ) h o.op with | some (r, h', m) => K r h' m | none => False) → o.wp P a w next Q := by
    intro hv
    split at hv
    · rename_i r h' m hf
      exact opFun_sound hT s hf (fun a' w' ν' hs => hn r h' m a' w' ν' hv hs)
    · exact hv.elim
  cases hop : o.op <;> rw [hop] at hv rest
  case call c => exact call_sound hT s hop hv hn
  case index t x i => exact index_sound hT s hop hv hn
  case indexAddr t x i => exact indexAddr_sound hT s hop hv hn
  case store t x y => exact store_sound hT s hop hv hn
  case makeSlice t x y => exact makeSlice_sound hT s hop hv hn
  case lookup t x k ok => exact lookup_sound hT s hop hv hn
  case mapUpdate t x k v => exact put_sound hT s (by unfold execOp; rw [hop]) hv hn
  case insert t x k v => exact put_sound hT s (by unfold execOp; rw [hop]) hv hn
  case load t x => exact rest (load_iff.1 hv)
  all_goals (simp only [vcOp] at hv; exact rest hv)
end
end Go.Vc
