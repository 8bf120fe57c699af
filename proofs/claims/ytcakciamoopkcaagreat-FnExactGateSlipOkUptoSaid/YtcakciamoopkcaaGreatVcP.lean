/- Regions: in the order of the text, and in whatever order. -/
import Derived.Test.YtcakciamoopkcaaGreatVcO
import Derived.Tactics
import Derived.Orders
import Derived.Still
set_option linter.unusedVariables false
set_option linter.unusedSimpArgs false
namespace Go.Vc
section
variable {P : Program} {T : List (Nat × TI)} {S : Specs} {N0 Nf : Nat → Prop} {w0 w w' : World} {n : Nat} {σ σ' : Env} {h : Heap} {a : Act} {ν ν' ν0 : Nat → Value} {Q : Exit → Act → World → Prop} {ops : Array Oper}

theorem br_yes {want b : Bool} {A B : Prop} (h : br want b A B) (e : b = want) : A := by
  subst e; cases b <;> exact h.1 rfl
theorem br_no {want b : Bool} {A B : Prop} (h : br want b A B) (e : b = !want) : B := by
  subst e; cases want <;> exact h.2 rfl
theorem put_same (σ : Env) (k : Nat) (v : AV) (h : σ k = v) : σ.put k v = σ := by
  funext j
  unfold Env.put
  by_cases e : j = k
  · subst e; rw [nbT]; exact h.symm
  · rw [nbF e]; rfl

theorem guard_bool {N : Nat → Prop} {gd : Nat} {b : Bool} (h : Rv w N ν [.d (.bool b)] [a.tmps.getD gd undef]) : a.tmps[gd]? = some (.bool b) := by
  have e := rv_bool h
  rw [Array.getD_eq_getD_getElem?] at e
  cases hq : a.tmps[gd]? with
  | none => rw [hq] at e; simp [undef] at e
  | some v => rw [hq] at e; simp at e; rw [e]
theorem guard_val {N : Nat → Prop} {gd : Nat} {b : Bool} (h : Rv w N ν [.val (.bool b)] [a.tmps.getD gd undef]) : a.tmps[gd]? = some (.bool b) := by
  have e := rv_val h
  rw [Array.getD_eq_getD_getElem?] at e
  cases hq : a.tmps[gd]? with
  | none => rw [hq] at e; simp [undef] at e
  | some v => rw [hq] at e; simp at e; rw [e]
/-- more is known of a slot -/
theorem St.know (s : St N0 w0 Nf n ν0 σ h a w ν) {k : Nat} {x : AV} (hx : Rv w (nN N0 ν) ν [x] [a.tmps.getD k undef]) : St N0 w0 Nf n ν0 (σ.put k x) h a w ν := by
  refine ⟨fun j => ?_, s.hp, s.kp, s.fresh, s.size, s.defers, s.keep, s.low⟩
  unfold Env.put
  by_cases e : j = k
  · subst e; rw [nbT]; exact hx
  · rw [nbF e]; exact s.slots j
theorem wanted_of {o : Oper} {g : Nat} {want : Bool} {gd : Nat} (hg : o.guard = some (g, want)) (hd : (ops[g]?).bind (·.dst) = some gd) {b : Bool} (hb : a.tmps[gd]? = some (.bool b)) :
    Region.wanted o (yielded ops a.tmps) = (b == want) := by
  simp only [Region.wanted, hg, yielded, hd, Option.bind_some, hb]
  cases b <;> cases want <;> rfl
theorem wanted_undef {o : Oper} {g : Nat} {want : Bool} {gd : Nat} {xs : Array Value} {N : Nat → Prop} (hg : o.guard = some (g, want)) (hd : (ops[g]?).bind (·.dst) = some gd) (hv : Rv w N ν [.val (.tuple xs)] [a.tmps.getD gd undef]) :
    Region.wanted o (yielded ops a.tmps) = false := by
  have e' : ∀ v, Rv w N ν [.val (.tuple xs)] [v] → v = .tuple xs := by intro v h; cases h; rfl
  have e := e' _ hv
  simp only [Region.wanted, hg, yielded, hd, Option.bind_some]
  rw [Array.getD_eq_getD_getElem?] at e
  cases hq : a.tmps[gd]? with
  | none => rfl
  | some v => rw [hq] at e; simp at e; rw [e]; rfl

theorem St.skip (s : St N0 w0 Nf n ν0 σ h a w ν) (d : Option Nat) : St N0 w0 Nf n ν0 (σ.putO n d (.val undef)) h (a.put d undef) w ν := putAgain s d (.val _ .nil)
theorem St.world (s : St N0 w0 Nf n ν0 σ h a w ν) (hk : Kp (fun _ => False) w w') : St N0 w0 Nf n ν0 σ h a w' ν := s.seen (d := none) (r := .val undef) (v := undef) hk (.val _ .nil)

/-- IN THE ORDER OF THE TEXT -/
theorem vcOps_sound (hT : tabB P T = true) {K : Env → Heap → Prop} (hK : ∀ σ h a w ν, K σ h → St N0 w0 Nf n ν0 σ h a w ν → Q .normal a w) : ∀ (rest : List Oper) {σ : Env} {h : Heap} {a : Act} {w : World} {ν : Nat → Value},
    St N0 w0 Nf n ν0 σ h a w ν → vcOps T (specs P) n ops rest σ h K → wpList P ops Q rest a w
  | [], σ, h, a, w, ν, s, hv => hK _ _ _ _ _ hv s
  | o :: rest, σ, h, a, w, ν, s, hv => by
    rw [vcOps_cons] at hv
    unfold vcOpsStep at hv
    unfold wpList
    split at hv
    · rename_i hg
      rw [if_pos (by simp [Region.wanted, hg])]
      exact .inl (vcOp_sound hT s hv fun r h' m a' w' ν' hk hs => vcOps_sound hT hK rest hs (heapK_iff.1 (putK_iff.1 hk)))
    · rename_i g want hg
      split at hv
      · exact hv.elim
      · rename_i gd hd
        split at hv
        · rename_i b hb
          have hsl := s.slots gd
          rw [hb] at hsl
          have hw := wanted_of (ops := ops) hg hd (guard_bool hsl)
          have hval : ∀ c, b = c → Rv w (nN N0 ν) ν [.val (.bool c)] [a.tmps.getD gd undef] := fun c e => by rw [rv_bool hsl, e]; exact .val _ .nil
          by_cases e : b = want
          · rw [if_pos (by rw [hw]; simp [e])]
            exact .inl (vcOp_sound hT (s.know (hval _ e)) (br_yes hv e) fun r h' m a' w' ν' hk hs => vcOps_sound hT hK rest hs (heapK_iff.1 (putK_iff.1 hk)))
          · have e' : b = !want := by cases b <;> cases want <;> simp_all
            rw [if_neg (by rw [hw]; simp [e])]
            exact vcOps_sound hT hK rest ((s.know (hval _ e')).skip o.dst) (br_no hv e')
        · rename_i b hb
          have hsl := s.slots gd
          rw [hb] at hsl
          have hw := wanted_of (ops := ops) hg hd (guard_val hsl)
          cases hbw : (b == want) <;> rw [hbw] at hv hw
          · rw [if_neg (by rw [hw]; simp)]
            exact vcOps_sound hT hK rest (s.skip o.dst) hv
          · rw [if_pos hw]
            exact .inl (vcOp_sound hT s hv fun r h' m a' w' ν' hk hs => vcOps_sound hT hK rest hs (heapK_iff.1 (putK_iff.1 hk)))
        · rename_i xs hb
          have hsl := s.slots gd
          rw [hb] at hsl
          rw [if_neg (by rw [wanted_undef hg hd hsl]; simp)]
          exact vcOps_sound hT hK rest (s.skip o.dst) hv
        · exact hv.elim

/-! ### whatever order -/
theorem vcCall_ang {f : FuncId} {args : List AV} {Φ : AV → Heap → Rn → Prop} (hv : vcCall S f args h Φ) : ∃ r h' m, Φ r h' m ∧ vcCall S f args h (fun r' h'' m' => r' = r ∧ h'' = h' ∧ m' = m) := by
  rcases hv with ⟨r, h1, h2⟩ | ⟨r, h', h1, h2⟩ | ⟨r, h', h1, h2⟩
  · cases hs : AV.scalar r with
    | true => rw [hs] at h2; exact ⟨r, h, .sub [], h2, .inl ⟨r, h1, by rw [hs]; exact ⟨rfl, rfl, rfl⟩⟩⟩
    | false => rw [hs] at h2; exact ⟨r, _, _, h2, .inl ⟨r, h1, by rw [hs]; exact ⟨rfl, rfl, rfl⟩⟩⟩
  · exact ⟨r, h', _, h2, .inr (.inl ⟨r, h', h1, rfl, rfl, rfl⟩)⟩
  · exact ⟨r, h', _, h2, .inr (.inr ⟨r, h', h1, rfl, rfl, rfl⟩)⟩

theorem vcPut_ang {ρ : Operand → AV} {t : TypeId} {x k v : Operand} {Φ : AV → Heap → Rn → Prop} (hv : vcPut T ρ h t x k v Φ) : ∃ r h' m, Φ r h' m ∧ vcPut T ρ h t x k v (fun r' h'' m' => r' = r ∧ h'' = h' ∧ m' = m) := by
  unfold vcPut at hv ⊢
  split at hv
  · rename_i ti hti
    try simp only [hti]
    split at hv
    · rename_i kt vt hk
      try simp only [hk]
      split at hv
      · rename_i e1 e2 e3
        try simp only [e1, e2, e3]
        split at hv
        · rename_i hid
          try simp only [hid]
          exact ⟨_, _, _, hv.2, hv.1, rfl, rfl, rfl⟩
        · exact hv.elim
      · exact hv.elim
    · exact hv.elim
  · exact hv.elim

theorem vcOp_ang {ρ : Operand → AV} {o : Op} {Φ : AV → Heap → Rn → Prop} (hv : vcOp T S ρ h o Φ) : ∃ r h' m, Φ r h' m ∧ vcOp T S ρ h o (fun r' h'' m' => r' = r ∧ h'' = h' ∧ m' = m) := by
  have rest : (match opFun T ρ h o with | some (r, h', m) => Φ r h' m | none => False) → ∃ r h' m, Φ r h' m ∧ (match opFun T ρ h o with | some (r', h'', m') => r' = r ∧ h'' = h' ∧ m' = m | none => False) := by
    intro hv
    cases hq : opFun T ρ h o with
    | none => rw [hq] at hv; exact hv.elim
    | some x => obtain ⟨r, h', m⟩ := x; rw [hq] at hv; exact ⟨r, h', m, hv, rfl, rfl, rfl⟩
  cases o
  case call c =>
    simp only [vcOp] at hv ⊢
    split at hv
    · rename_i f hc
      try simp only [hc]
      split at hv
      · rename_i g caps e; (try simp only [e]); exact vcCall_ang hv
      · exact hv.elim
    · rename_i x name hc
      try simp only [hc]
      split at hv
      · rename_i t v e
        try simp only [e]
        split at hv
        · rename_i ti hti
          try simp only [hti]
          split at hv
          · exact hv.elim
          · rename_i hk
            split at hv
            · rename_i f hm
              try simp only [hm]
              obtain ⟨r, h', m, h1, h2⟩ := vcCall_ang hv
              exact ⟨r, h', m, h1, h2⟩
            · exact hv.elim
        · exact hv.elim
      · exact hv.elim
    · rename_i hc
      try simp only [hc]
      split at hv
      · rename_i x t e1 e2
        try simp only [e1, e2]
        split at hv
        · rename_i ti hti
          try simp only [hti]
          unfold vcLen at hv ⊢
          split at hv
          · rename_i e3 e4; (try simp only [e3, e4]); exact ⟨_, _, _, hv, rfl, rfl, rfl⟩
          · rename_i e3 e4; (try simp only [e3, e4]); exact ⟨_, _, _, hv, rfl, rfl, rfl⟩
          · rename_i e3 e4; (try simp only [e3, e4]); exact ⟨_, _, _, hv, rfl, rfl, rfl⟩
          · rename_i e3 e4
            try simp only [e3, e4]
            split at hv
            · rename_i hid; (try simp only [hid]); exact ⟨_, _, _, hv, rfl, rfl, rfl⟩
            · exact hv.elim
          · exact hv.elim
        · exact hv.elim
      · exact hv.elim
    · rename_i hc
      try simp only [hc]
      split at hv
      · rename_i x y t t2 e1 e2
        try simp only [e1, e2]
        unfold vcAppend at hv ⊢
        split at hv
        · rename_i ti new hti hnew
          try simp only [hti, hnew]
          split at hv
          · rename_i e hk
            try simp only [hk]
            split at hv
            · rename_i te hte
              try simp only [hte]
              obtain ⟨g1, g2, hv⟩ := hv
              split at hv
              · rename_i id e3
                try simp only [e3]
                split at hv
                · rename_i hid
                  try simp only [hid]
                  obtain ⟨g3, g4, hv⟩ := hv
                  exact ⟨_, _, _, hv, g1, g2, g3, g4, rfl, rfl, rfl⟩
                · exact hv.elim
              · rename_i e3
                try simp only [e3]
                obtain ⟨g3, hv⟩ := hv
                exact ⟨_, _, _, hv, g1, g2, g3, rfl, rfl, rfl⟩
              · exact hv.elim
            · exact hv.elim
          · exact hv.elim
        · exact hv.elim
      · exact hv.elim
    · exact hv.elim
  case index t x i =>
    simp only [vcOp] at hv ⊢
    split at hv
    · rename_i ti hti
      try simp only [hti]
      split at hv
      · rename_i e1 e2 e3
        try simp only [e1, e2, e3]
        obtain ⟨h0, b, hb, hv⟩ := hv
        exact ⟨_, _, _, hv, h0, b, hb, rfl, rfl, rfl⟩
      · rename_i e1 e2 e3
        try simp only [e1, e2, e3]
        obtain ⟨h0, hv⟩ := hv
        split at hv
        · rename_i te hte
          try simp only [hte]
          obtain ⟨r, hr, hv⟩ := hv
          exact ⟨_, _, _, hv, h0, r, hr, rfl, rfl, rfl⟩
        · exact hv.elim
      · exact hv.elim
    · exact hv.elim
  case indexAddr t x i =>
    simp only [vcOp] at hv ⊢
    split at hv
    · rename_i ti hti
      try simp only [hti]
      split at hv
      · rename_i e hk
        try simp only [hk]
        split at hv
        · rename_i te hte
          try simp only [hte]
          obtain ⟨hsz, hv⟩ := hv
          split at hv
          · rename_i e1 e2
            try simp only [e1, e2]
            obtain ⟨h0, b, hb, hl, hv⟩ := hv
            exact ⟨_, _, _, hv, hsz, h0, b, hb, hl, rfl, rfl, rfl⟩
          · rename_i e1 e2
            try simp only [e1, e2]
            split at hv
            · rename_i hid
              try simp only [hid]
              obtain ⟨g1, g2, g3, hv⟩ := hv
              exact ⟨_, _, _, hv, hsz, g1, g2, g3, rfl, rfl, rfl⟩
            · exact hv.elim
          · exact hv.elim
        · exact hv.elim
      · exact hv.elim
    · exact hv.elim
  case store t x y =>
    simp only [vcOp] at hv ⊢
    split at hv
    · rename_i ti hti
      try simp only [hti]
      split at hv
      · rename_i new id off e1 e2
        try simp only [e1, e2]
        split at hv
        · rename_i hid
          try simp only [hid]
          obtain ⟨g1, hv⟩ := hv
          exact ⟨_, _, _, hv, g1, rfl, rfl, rfl⟩
        · exact hv.elim
      · rename_i new id i sz off e1 e2
        try simp only [e1, e2]
        split at hv
        · rename_i hid hds
          try simp only [hid, hds]
          obtain ⟨g1, row, g2, g3, hv⟩ := hv
          exact ⟨_, _, _, hv, g1, row, g2, g3, rfl, rfl, rfl⟩
        · exact hv.elim
      · exact hv.elim
    · exact hv.elim
  case makeSlice t x y =>
    simp only [vcOp] at hv ⊢
    split at hv
    · rename_i ti hti
      try simp only [hti]
      split at hv
      · rename_i e hk
        try simp only [hk]
        split at hv
        · rename_i te hte
          try simp only [hte]
          split at hv
          · rename_i e1 e2 e3
            try simp only [e1, e2, e3]
            obtain ⟨g1, g2, g3, g4, hv⟩ := hv
            exact ⟨_, _, _, hv, g1, g2, g3, g4, rfl, rfl, rfl⟩
          · exact hv.elim
        · exact hv.elim
      · exact hv.elim
    · exact hv.elim
  case lookup t x k ok =>
    simp only [vcOp] at hv ⊢
    split at hv
    · rename_i ti hti
      try simp only [hti]
      split at hv
      · rename_i kt vt hk
        try simp only [hk]
        split at hv
        · rename_i e1 e2 e3 e4
          try simp only [e1, e2, e3, e4]
          split at hv
          · rename_i hid
            try simp only [hid]
            obtain ⟨g1, r, g2, hv⟩ := hv
            split at hv
            · exact ⟨_, _, _, hv, g1, _, g2, rfl, rfl, rfl⟩
            · exact ⟨_, _, _, hv, g1, _, g2, rfl, rfl, rfl⟩
          · exact hv.elim
        · exact hv.elim
      · exact hv.elim
    · exact hv.elim
  case mapUpdate t x k v => simp only [vcOp] at hv ⊢; exact vcPut_ang hv
  case insert t x k v => simp only [vcOp] at hv ⊢; exact vcPut_ang hv
  case load t x =>
    obtain ⟨r, h', m, h1, h2⟩ := rest (load_iff.1 hv)
    exact ⟨r, h', m, h1, load_iff.2 h2⟩
  all_goals (simp only [vcOp] at hv ⊢; exact rest hv)

theorem vcOp_congr {ρ ρ' : Operand → AV} {o : Op} {Φ : AV → Heap → Rn → Prop} (hc : ∀ cs b, o ≠ .select cs b) (he : ∀ x ∈ o.operands, ρ x = ρ' x) (hv : vcOp T S ρ h o Φ) : vcOp T S ρ' h o Φ := by
  cases o
  case call c =>
    have hargs : c.args.toList.map ρ = c.args.toList.map ρ' := List.map_congr_left fun x hx => he x (by simp [Op.operands, Call.operands, Array.mem_toList_iff.1 hx])
    have h1 : ∀ f, c.callee = .value f → ρ f = ρ' f := fun f hf => he f (by simp [Op.operands, Call.operands, hf])
    have h2 : ∀ f nm, c.callee = .invoke f nm → ρ f = ρ' f := fun f nm hf => he f (by simp [Op.operands, Call.operands, hf])
    have h3 : ∀ x ∈ c.args.toList, ρ x = ρ' x := fun x hx => he x (by simp [Op.operands, Call.operands, Array.mem_toList_iff.1 hx])
    simp only [vcOp] at hv ⊢
    split at hv
    · rename_i f hcal
      try simp only [hcal]
      rw [h1 f hcal, hargs] at hv
      exact hv
    · rename_i x name hcal
      try simp only [hcal]
      rw [h2 x name hcal, hargs] at hv
      exact hv
    · rename_i hcal
      try simp only [hcal]
      split at hv
      · rename_i x t e1 e2
        try simp only [e1, e2]
        rw [h3 x (by rw [e1]; simp)] at hv
        exact hv
      · exact hv.elim
    · rename_i hcal
      try simp only [hcal]
      split at hv
      · rename_i x y t t2 e1 e2
        try simp only [e1, e2]
        rw [h3 x (by rw [e1]; simp), h3 y (by rw [e1]; simp)] at hv
        exact hv
      · exact hv.elim
    · exact hv.elim
  case load t x =>
    rw [load_iff] at hv ⊢
    simp only [opFun] at hv ⊢
    rw [he x (by simp [Op.operands])] at hv; exact hv
  case build t parts =>
    have : (parts.toList.map fun p => (p.1, ρ p.2)) = parts.toList.map fun p => (p.1, ρ' p.2) := List.map_congr_left fun p hp => by
      rw [he p.2 (by simp only [Op.operands, List.mem_toArray, List.mem_map]; exact ⟨p, hp, rfl⟩)]
    simp only [vcOp, opFun] at hv ⊢
    rw [this] at hv; exact hv
  case buildSlice t len parts =>
    have h1 : (parts.toList.map fun p => (p.1, ρ p.2)) = parts.toList.map fun p => (p.1, ρ' p.2) := List.map_congr_left fun p hp => by
      rw [he p.2 (by simp only [Op.operands, List.mem_toArray, List.mem_map]; exact ⟨p, hp, rfl⟩)]
    have h2 : (parts.toList.map fun p => ρ p.2) = parts.toList.map fun p => ρ' p.2 := List.map_congr_left fun p hp => by
      rw [he p.2 (by simp only [Op.operands, List.mem_toArray, List.mem_map]; exact ⟨p, hp, rfl⟩)]
    simp only [vcOp, opFun] at hv ⊢
    rw [h1, h2] at hv; exact hv
  case makeFunc fn first caps =>
    have : caps.toList.map ρ = caps.toList.map ρ' := List.map_congr_left fun x hx => he x (by simp [Op.operands, Array.mem_toList_iff.1 hx])
    simp only [vcOp] at hv ⊢
    cases fn <;> simp only [opFun] at hv ⊢
    · rw [this] at hv; exact hv
    all_goals exact hv
  case unOp op t x =>
    have := he x (by simp [Op.operands])
    cases op <;> simp only [vcOp, opFun] at hv ⊢
    case not => rw [this] at hv; exact hv
    all_goals exact hv
  case lookup t x k ok =>
    simp only [vcOp] at hv ⊢; rw [he x (by simp [Op.operands]), he k (by simp [Op.operands])] at hv; exact hv
  case mapUpdate t x k v =>
    simp only [vcOp, vcPut] at hv ⊢; rw [he x (by simp [Op.operands]), he k (by simp [Op.operands]), he v (by simp [Op.operands])] at hv; exact hv
  case insert t x k v =>
    simp only [vcOp, vcPut] at hv ⊢; rw [he x (by simp [Op.operands]), he k (by simp [Op.operands]), he v (by simp [Op.operands])] at hv; exact hv
  all_goals first
    | (simp only [vcOp, opFun] at hv; done)
    | (rename_i x y z; simp only [vcOp, opFun] at hv ⊢; rw [he x (by simp [Op.operands]), he y (by simp [Op.operands]), he z (by simp [Op.operands])] at hv; exact hv)
    | (rename_i t x y z; simp only [vcOp, opFun] at hv ⊢; rw [he x (by simp [Op.operands]), he y (by simp [Op.operands])] at hv; exact hv)
    | (rename_i x y; simp only [vcOp, opFun] at hv ⊢; rw [he x (by simp [Op.operands]), he y (by simp [Op.operands])] at hv; exact hv)
    | (rename_i op t x y z; simp only [vcOp, opFun] at hv ⊢; rw [he x (by simp [Op.operands]), he y (by simp [Op.operands])] at hv; exact hv)
    | (rename_i x; simp only [vcOp, opFun] at hv ⊢; rw [he x (by simp [Op.operands])] at hv; exact hv)
    | (rename_i x z; simp only [vcOp, opFun] at hv ⊢; rw [he x (by simp [Op.operands])] at hv; exact hv)
    | (simp only [vcOp, opFun] at hv ⊢; exact hv)
end
end Go.Vc
