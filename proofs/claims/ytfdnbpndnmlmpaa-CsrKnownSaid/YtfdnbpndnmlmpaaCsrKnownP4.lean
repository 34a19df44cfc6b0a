/-
A part of the proof: The mirror, part 19: a function's code runs to its end, and comes to what the evaluator says.
-/
import Derived.LoopN
import Derived.Laws.Sem
import Derived.Test.YtfdnbpndnmlmpaaCsrKnownP3

set_option linter.unusedVariables false
set_option linter.unusedSimpArgs false

namespace Go.Mir

/-- Are all slots that code writes below a number? -/
def codeOk (N : Nat) : Code → Bool
  | .region _ ops _ => ops.toList.all fun o => match o.dst with | some d => Nat.blt d N | none => true
  | .seq a b => codeOk N a && codeOk N b
  | .cond _ a b => codeOk N a && codeOk N b
  | .block _ c => codeOk N c
  | .loop c => codeOk N c
  | .skip => true
  | .exit _ => true
  | .ret => true
  | _ => false

/-- Each block in some code. -/
def Blks (X : Nat → Code → Prop) : Code → Prop
  | .seq a b => Blks X a ∧ Blks X b
  | .cond _ a b => Blks X a ∧ Blks X b
  | .block id c => X id c ∧ Blks X c
  | .loop c => Blks X c
  | _ => True

theorem Blks.mono {X Y : Nat → Code → Prop} (h : ∀ id c, X id c → Y id c) : ∀ c, Blks X c → Blks Y c
  | .seq a b, g => ⟨Blks.mono h a g.1, Blks.mono h b g.2⟩
  | .cond _ a b, g => ⟨Blks.mono h a g.1, Blks.mono h b g.2⟩
  | .block _ c, g => ⟨h _ _ g.1, Blks.mono h c g.2⟩
  | .loop c, g => Blks.mono h c g
  | .skip, _ => trivial
  | .region .., _ => trivial
  | .rangeFunc .., _ => trivial
  | .exit _, _ => trivial
  | .scope _, _ => trivial
  | .label _, _ => trivial
  | .goto _, _ => trivial
  | .ret, _ => trivial
  | .refuse _, _ => trivial

theorem Blks.all {X : Nat → Code → Prop} (h : ∀ id c, X id c) : ∀ c, Blks X c
  | .seq a b => ⟨Blks.all h a, Blks.all h b⟩
  | .cond _ a b => ⟨Blks.all h a, Blks.all h b⟩
  | .block _ c => ⟨h _ _, Blks.all h c⟩
  | .loop c => Blks.all h c
  | .skip => trivial
  | .region .. => trivial
  | .rangeFunc .. => trivial
  | .exit _ => trivial
  | .scope _ => trivial
  | .label _ => trivial
  | .goto _ => trivial
  | .ret => trivial
  | .refuse _ => trivial

section
variable {P : Program} {C : Ctx}

def exitOf (R : Rows) (β : Bt) : Ex → Exit
  | .normal => .normal
  | .exit i => .exit i
  | .ret => .ret
  | .pan v => .panic [{ v := toV R β v, recovered := false }]

def exOk (R : Rows) (nx : Nat) : Ex → Prop
  | .pan v => wf R (bel nx) v
  | _ => True

/-- What stands behind some code is met, whatever it comes to. -/
def CPost (C : Ctx) {α : Type} (Q : α → Prop) (K : Ex → Env → Mem → Nat → T α) (β : Bt) (m : Mem) (nx : Nat) (w : World) (N : Nat) (D : List Deferred) (Qx : Exit → Act → World → Prop) : Prop :=
  ∀ e s' m' nx' β' a' w', (K e s' m' nx').holds Q → exOk C.R nx' e → EnvR C.R β' (bel nx') s' a' → Rel C.R β' m' (bel nx') w' → Ext C.R β m (bel nx) w β' m' (bel nx') w' → a'.tmps.size = N → a'.defers = D → Qx (exitOf C.R β' e) a' w'

/-- A block's summary. -/
def BSound (P : Program) (C : Ctx) (N : Nat) (D : List Deferred) (id : Nat) (c : Code) (S : BSpec) : Prop :=
  ∀ (α : Type) (Q : α → Prop) (s : Env) (m : Mem) (nx : Nat) (K : Ex → Env → Mem → Nat → T α) (β : Bt) (a : Act) (w : World) (Qx : Exit → Act → World → Prop), EnvR C.R β (bel nx) s a → Rel C.R β m (bel nx) w → a.tmps.size = N → a.defers = D →
    (S α s m nx K).holds Q → CPost C Q K β m nx w N D Qx → (Code.block id c).wp P Qx a w

theorem CPost.later {α : Type} {Q : α → Prop} {K : Ex → Env → Mem → Nat → T α} {β β' : Bt} {m m' : Mem} {nx nx' : Nat} {w w' : World} {N : Nat} {D : List Deferred} {Qx : Exit → Act → World → Prop}
    (h : CPost C Q K β m nx w N D Qx) (hX : Ext C.R β m (bel nx) w β' m' (bel nx') w') : CPost C Q K β' m' nx' w' N D Qx :=
  fun e s'' m'' nx'' β'' a'' w'' h1 h2 h3 h4 h5 h6 h7 => h e s'' m'' nx'' β'' a'' w'' h1 h2 h3 h4 (hX.trans h5) h6 h7

theorem mev_sound (hC : CtxOk P C) (hmix : P.follows .mixedOrders = true) {N : Nat} {D : List Deferred} : ∀ (c : Code), codeOk N c = true → Blks (fun id c => ∀ S, C.B id = some S → BSound P C N D id c S) c →
    ∀ {α : Type} (Q : α → Prop) (s : Env) (m : Mem) (nx : Nat) (K : Ex → Env → Mem → Nat → T α) (β : Bt) (a : Act) (w : World) (Qx : Exit → Act → World → Prop), EnvR C.R β (bel nx) s a → Rel C.R β m (bel nx) w → a.tmps.size = N → a.defers = D →
      (mev C c s m nx K).holds Q → CPost C Q K β m nx w N D Qx → c.wp P Qx a w := by
  intro c
  induction c with
  | skip =>
    intro _ _ α Q s m nx K β a w Qx hE hR hN hD h hK
    exact wp_skip (hK .normal s m nx β a w h trivial hE hR (Ext.refl _ _ _ _ _) hN hD)
  | exit id =>
    intro _ _ α Q s m nx K β a w Qx hE hR hN hD h hK
    exact wp_exit (hK (.exit id) s m nx β a w h trivial hE hR (Ext.refl _ _ _ _ _) hN hD)
  | ret =>
    intro _ _ α Q s m nx K β a w Qx hE hR hN hD h hK
    exact wp_ret (hK .ret s m nx β a w h trivial hE hR (Ext.refl _ _ _ _ _) hN hD)
  | region id ops draw =>
    intro ho _ α Q s m nx K β a w Qx hE hR hN hD h hK
    have := mReg_sound (all := ops.toList) (id := id) (draw := draw) hC hmix (N := N) (D := D) (Q := Q) (Qx := Qx) (fun o hm d hd => by
      have := List.all_eq_true.1 ho o hm
      rw [hd] at this
      exact blt_lt this)
      (fun s' m' nx' β' a' w' h1 h2 h3 h4 h5 h6 => hK .normal s' m' nx' β' a' w' h1 trivial h2 h3 h4 h5 h6)
      (fun v s' m' nx' β' a' w' h1 h2 h3 h4 h5 h6 h7 => hK (.pan v) s' m' nx' β' a' w' h1 h2 h3 h4 h5 h6 h7) hE hR hN hD h
    simpa using this
  | seq x y ihx ihy =>
    intro ho hB α Q s m nx K β a w Qx hE hR hN hD h hK
    simp only [codeOk, Bool.and_eq_true] at ho
    refine wp_seq (ihx ho.1 hB.1 Q s m nx _ β a w _ hE hR hN hD h fun e s' m' nx' β' a' w' h1 h2 h3 h4 h5 h6 h7 => ?_)
    cases e with
    | normal => exact ihy ho.2 hB.2 Q s' m' nx' K β' a' w' Qx h3 h4 h6 h7 h1 (hK.later h5)
    | exit i => exact hK (.exit i) s' m' nx' β' a' w' h1 h2 h3 h4 h5 h6 h7
    | ret => exact hK .ret s' m' nx' β' a' w' h1 h2 h3 h4 h5 h6 h7
    | pan v => exact hK (.pan v) s' m' nx' β' a' w' h1 h2 h3 h4 h5 h6 h7
  | cond c x y ihx ihy =>
    intro ho hB α Q s m nx K β a w Qx hE hR hN hD h hK
    simp only [codeOk, Bool.and_eq_true] at ho
    have hs := ev_says hC hE c
    simp only [mev] at h
    split at h
    · rename_i hc
      rw [hc] at hs
      exact wp_cond_true (hs.eq rfl).2 (ihx ho.1 hB.1 Q s m nx K β a w Qx hE hR hN hD h hK)
    · rename_i hc
      rw [hc] at hs
      exact wp_cond_false (hs.eq rfl).2 (ihy ho.2 hB.2 Q s m nx K β a w Qx hE hR hN hD h hK)
    · rename_i b hc
      rw [hc] at hs
      obtain ⟨h1, h2⟩ := h
      exact wp_cond_split (t := b) (hs.eq rfl).2 (fun e => ihx ho.1 hB.1 Q s m nx K β a w Qx hE hR hN hD (h1 e) hK) (fun e => ihy ho.2 hB.2 Q s m nx K β a w Qx hE hR hN hD (h2 e) hK)
    · exact h.elim
  | block id c ih =>
    intro ho hB α Q s m nx K β a w Qx hE hR hN hD h hK
    simp only [mev] at h
    split at h
    · rename_i S hS
      exact hB.1 S hS α Q s m nx K β a w Qx hE hR hN hD h hK
    · refine wp_block (ih ho hB.2 Q s m nx _ β a w _ hE hR hN hD h fun e s' m' nx' β' a' w' h1 h2 h3 h4 h5 h6 h7 => ?_)
      cases e with
      | normal => exact hK .normal s' m' nx' β' a' w' h1 h2 h3 h4 h5 h6 h7
      | exit i =>
        simp only [exitOf, Exit.inBlock]
        simp only [] at h1
        by_cases e : i = id
        · subst e
          rw [Nat.beq_refl] at h1
          rw [if_pos rfl]
          exact hK .normal s' m' nx' β' a' w' h1 trivial h3 h4 h5 h6 h7
        · rw [beq_ne e] at h1
          rw [if_neg e]
          exact hK (.exit i) s' m' nx' β' a' w' h1 trivial h3 h4 h5 h6 h7
      | ret => exact hK .ret s' m' nx' β' a' w' h1 h2 h3 h4 h5 h6 h7
      | pan v => exact hK (.pan v) s' m' nx' β' a' w' h1 h2 h3 h4 h5 h6 h7
  | loop c ih =>
    intro ho hB α Q s m nx K β a w Qx hE hR hN hD h hK
    simp only [mev] at h
    refine wp_loop_rounds C.fuel ?_
    generalize C.fuel = n at h ⊢
    induction n generalizing s m nx β a w with
    | zero => exact h.elim
    | succ n ihn =>
      refine ih ho hB Q s m nx _ β a w _ hE hR hN hD h fun e s' m' nx' β' a' w' h1 h2 h3 h4 h5 h6 h7 => ?_
      cases e with
      | normal => exact ihn s' m' nx' β' a' w' h3 h4 h6 h7 (hK.later h5) h1
      | exit i => exact hK (.exit i) s' m' nx' β' a' w' h1 h2 h3 h4 h5 h6 h7
      | ret => exact hK .ret s' m' nx' β' a' w' h1 h2 h3 h4 h5 h6 h7
      | pan v => exact hK (.pan v) s' m' nx' β' a' w' h1 h2 h3 h4 h5 h6 h7
  | rangeFunc f ps as b _ _ => intro _ _ α Q s m nx K β a w Qx hE hR hN hD h hK; exact h.elim
  | scope b _ => intro _ _ α Q s m nx K β a w Qx hE hR hN hD h hK; exact h.elim
  | label l => intro _ _ α Q s m nx K β a w Qx hE hR hN hD h hK; exact h.elim
  | goto l => intro _ _ α Q s m nx K β a w Qx hE hR hN hD h hK; exact h.elim
  | refuse y => intro _ _ α Q s m nx K β a w Qx hE hR hN hD h hK; exact h.elim

/-! ### A function -/
theorem args0_lk : ∀ (l : List AV) (i t : Nat), lk (args0 i l) t = if t < i then .unk else (l[t - i]?).getD .unk
  | [], i, t => by simp [args0, lk]
  | v :: r, i, t => by
    by_cases e : t = i
    · subst e; simp [args0, lk_cons_same]
    · simp only [args0]
      rw [lk_cons_ne _ e, args0_lk r (i + 1) t]
      by_cases h : t < i
      · rw [if_pos h, if_pos (by omega)]
      · rw [if_neg h, if_neg (by omega), show t - i = (t - (i + 1)) + 1 by omega]; rfl

theorem EnvR.args {R : Rows} {β : Bt} {nx : Nat → Prop} {l : List AV} {N : Nat} (hw : ∀ x ∈ l, wfe R nx x) (D : List Deferred) :
    EnvR R β nx (args0 0 l) { tmps := (l.map (toV R β)).toArray ++ Array.replicate (N - (l.map (toV R β)).toArray.size) undef, defers := D } := by
  intro t
  rw [args0_lk, if_neg (by omega), Nat.sub_zero]
  cases h : l[t]? with
  | none => exact .inl rfl
  | some v =>
    refine .inr ⟨hw v (List.mem_of_getElem? h), ?_⟩
    have hlt : t < l.length := (List.getElem?_eq_some_iff.1 h).1
    have hv : l[t] = v := (List.getElem?_eq_some_iff.1 h).2
    simp [Array.getD_eq_getD_getElem?, Array.getElem?_append, hlt, hv]

def rvRun (tmps : Array Value) : ResultVar → Sem Value
  | .tmp t => pure (tmps.getD t undef)
  | .cell a t => do loadVar t (← asAddr (tmps.getD a undef))

theorem results_eq (fn : Func) (tmps : Array Value) : results fn tmps = (do let vs ← fn.results.mapM (rvRun tmps); pure (if h : vs.size = 1 then vs[0] else .tuple vs)) := by
  unfold results
  have : rvRun tmps = (fun (r : ResultVar) => match r with
    | .tmp t => (pure (tmps.getD t undef) : Sem Value)
    | .cell a t => do loadVar t (← asAddr (tmps.getD a undef))) := funext fun r => by cases r <;> rfl
  rw [this]
  congr 1

theorem resOf_run (hC : CtxOk P C) {β : Bt} {nx : Nat} {s : Env} {m : Mem} {a : Act} {w : World} (hE : EnvR C.R β (bel nx) s a) (hR : Rel C.R β m (bel nx) w) {r : ResultVar} {ps : List Prop} {v : AV} (h : resOf C s m r = some (ps, v)) (hp : ∀ p ∈ ps, p)
    (hv : isUnk v = false) : wfe C.R (bel nx) v ∧ (rvRun a.tmps r).run P w = .ok (toV C.R β v) w := by
  cases r with
  | tmp t =>
    simp only [resOf, Option.some.injEq, Prod.mk.injEq] at h
    obtain ⟨rfl, rfl⟩ := h
    obtain ⟨g, e⟩ := (hE t).eq hv
    exact ⟨g, by simp only [rvRun, Sem.run_pure, e]⟩
  | cell ad t =>
    simp only [resOf] at h
    split at h
    · rename_i i p hx
      split at h
      · rename_i qs u hn
        split at h
        · rename_i u' hl
          simp only [Option.some.injEq, Prod.mk.injEq] at h
          obtain ⟨rfl, rfl⟩ := h
          have hs := hE ad
          rw [hx] at hs
          obtain ⟨hi, he⟩ := hs.ptr
          have hu := notUnk_of hn hl hv
          obtain ⟨gu, hc⟩ := hR.part hi hn hp hu
          obtain ⟨l1, l2, l3, l4, l5, l6⟩ := ldv_spec (β := β) hl gu
          refine ⟨wf_wfe l6, ?_⟩
          simp only [rvRun]
          rw [he, l5]
          simp only [asAddr, Sem.run_bind, Sem.run_pure, Result.andThen_ok]
          exact run_load hC.tab l1 l2 l3 l4 gu hc
        · cases h
      · cases h
    · cases h

theorem resAll_run (hC : CtxOk P C) {β : Bt} {nx : Nat} {s : Env} {m : Mem} {a : Act} {w : World} (hE : EnvR C.R β (bel nx) s a) (hR : Rel C.R β m (bel nx) w) : ∀ (rs : List ResultVar) (ps : List Prop) (vs : List AV), resAll C s m rs = some (ps, vs) → (∀ p ∈ ps, p) →
    (∀ v ∈ vs, isUnk v = false) → (∀ v ∈ vs, wfe C.R (bel nx) v) ∧
      (rs.mapM (rvRun a.tmps)).run P w = .ok (vs.map (toV C.R β)) w
  | [], ps, vs, h, _, _ => by
    simp only [resAll, Option.some.injEq, Prod.mk.injEq] at h
    obtain ⟨rfl, rfl⟩ := h
    exact ⟨fun v hv => (by cases hv), rfl⟩
  | r :: rs, ps, vs, h, hp, hv => by
    simp only [resAll] at h
    split at h
    · rename_i ps1 v1 ps2 vs2 h1 h2
      simp only [Option.some.injEq, Prod.mk.injEq] at h
      obtain ⟨rfl, rfl⟩ := h
      obtain ⟨g1, e1⟩ := resOf_run hC hE hR h1 (fun p hq => hp p (by simp [hq])) (hv v1 (by simp))
      obtain ⟨g2, e2⟩ := resAll_run hC hE hR rs ps2 vs2 h2 (fun p hq => hp p (by simp [hq])) (fun v hq => hv v (by simp [hq]))
      refine ⟨fun v hq => ?_, ?_⟩
      · rcases List.mem_cons.1 hq with rfl | hq
        · exact g1
        · exact g2 v hq
      · rw [List.mapM_cons, Sem.run_bind, e1, Result.andThen_ok, Sem.run_bind, e2, Result.andThen_ok]; rfl
    · cases h

theorem okvs_mem : ∀ {l : List AV}, okvs l = true → ∀ v ∈ l, okv v = true
  | u :: l, h, v, hv => by
    simp only [okvs] at h
    cases hu : okv u with
    | false => rw [hu] at h; cases h
    | true =>
      rw [hu] at h
      rcases List.mem_cons.1 hv with rfl | hv
      · exact hu
      · exact okvs_mem h v hv

theorem resK_run (hC : CtxOk P C) {α : Type} {Q : α → Prop} {K : Out → Mem → Nat → T α} {fn : Func} {β : Bt} {nx : Nat} {s : Env} {m : Mem} {a : Act} {w : World} (hE : EnvR C.R β (bel nx) s a) (hR : Rel C.R β m (bel nx) w)
    (h : (resK C fn s m nx K).holds Q) : ∃ v, (K (.ret v) m nx).holds Q ∧ wfe C.R (bel nx) v ∧ isUnk v = false ∧ (results fn a.tmps).run P w = .ok (toV C.R β v) w := by
  have hall := resAll_run hC hE hR fn.results.toList
  have hres : ∀ vs : List Value, (fn.results.toList.mapM (rvRun a.tmps)).run P w = .ok vs w → (results fn a.tmps).run P w = .ok (if h : vs.toArray.size = 1 then vs.toArray[0] else .tuple vs.toArray) w := by
    intro vs hvs
    rw [results_eq]
    rw [show fn.results = fn.results.toList.toArray by simp, List.mapM_toArray]
    rw [Sem.run_bind, map_eq_pure_bind, Sem.run_bind, hvs]
    rfl
  unfold resK at h
  split at h
  · rename_i ps v hr
    obtain ⟨h1, h2⟩ := T.holds_needs h
    obtain ⟨h3, h4⟩ := frc_holds h2
    obtain ⟨g, e⟩ := hall ps [v] hr h1 (fun x hx => by rw [List.mem_singleton.1 hx]; exact h3)
    refine ⟨v, h4, g v (by simp), h3, ?_⟩
    rw [hres _ e]; rfl
  · rename_i ps vs hno hr
    split at h
    · rename_i ho
      obtain ⟨h1, h2⟩ := T.holds_needs h
      have hok := okvs_mem ho
      obtain ⟨g, e⟩ := hall ps vs hr h1 (fun x hx => okv_unk (hok x hx))
      refine ⟨.tup (ofL vs), h2, wf_ofL vs fun x hx => wfe_wf (g x hx) (hok x hx), rfl, ?_⟩
      rw [hres _ e]
      have hsz : ¬ (vs.map (toV C.R β)).toArray.size = 1 := by
        intro hz
        simp at hz
        obtain ⟨x, rfl⟩ := List.length_eq_one_iff.1 hz
        exact hno x rfl
      rw [dif_neg hsz]
      show _ = Result.ok (Value.tuple (vals C.R β (ofL vs)).toArray) w
      rw [vals_ofL]
    · exact h.elim
  · exact h.elim

/-- A function's run, in any memory. -/
theorem fnEv_calls (hC : CtxOk P C) (hmix : P.follows .mixedOrders = true) {f : FuncId} {fn : Func} {c : Code} (hf : P.funcs[f]? = some fn) (hb : fn.body = some c) (hok : codeOk fn.ntmps c = true)
    (hB : Blks (fun id c => ∀ S, C.B id = some S → BSound P C fn.ntmps [] id c S) c) {α : Type} {Q : α → Prop} {args : List AV} (hn : args.length ≤ fn.ntmps) {m : Mem} {nx : Nat} {K : Out → Mem → Nat → T α} {β : Bt} {w : World}
    (hR : Rel C.R β m (bel nx) w) (hw : ∀ x ∈ args, wf C.R (bel nx) x) (h : (fnEv C fn args m nx K).holds Q) :
    Calls P f (args.map (toV C.R β)).toArray w fun e w' => ∃ o m' nx' β', (K o m' nx').holds Q ∧ Rel C.R β' m' (bel nx') w' ∧ Ext C.R β m (bel nx) w β' m' (bel nx') w' ∧
      match o with
      | .ret v => wfe C.R (bel nx') v ∧ isUnk v = false ∧ e = .returned (toV C.R β' v)
      | .pan v => wf C.R (bel nx') v ∧ e = .panicked [{ v := toV C.R β' v, recovered := false }] := by
  unfold fnEv at h
  rw [hb] at h
  refine calls_of_wp hf hb (mev_sound hC hmix c hok hB Q _ m nx _ β _ w _ (EnvR.args (fun x hx => wf_wfe (hw x hx)) []) hR ?_ rfl h fun e s' m' nx' β' a' w' h1 h2 h3 h4 h5 h6 h7 => ?_)
  · simp; omega
  · cases e with
    | normal =>
      obtain ⟨v, k1, k2, k3, k4⟩ := resK_run hC h3 h4 h1
      exact ⟨h7, _, k4, .ret v, m', nx', β', k1, h4, h5, k2, k3, rfl⟩
    | ret =>
      obtain ⟨v, k1, k2, k3, k4⟩ := resK_run hC h3 h4 h1
      exact ⟨h7, _, k4, .ret v, m', nx', β', k1, h4, h5, k2, k3, rfl⟩
    | pan v => exact ⟨h7, .pan v, m', nx', β', h1, h4, h5, h2, rfl⟩
    | exit i => exact h1.elim

end
end Go.Mir

namespace Go.Mir

def rdCaps (R : Rows) : Nat → AV → Option (List Cap × AV)
  | 0, r => some ([], r)
  | n + 1, .cons v r => match asCap R v, rdCaps R n r with | some c, some (l, r') => some (c :: l, r') | _, _ => none
  | _, _ => none

def rdInts (R : Rows) : List IntKind → AV → Option (List Int × AV)
  | [], r => some ([], r)
  | k :: ks, .cons v r => match asInt R k v, rdInts R ks r with | some c, some (l, r') => some (c :: l, r') | _, _ => none
  | _, _ => none

def okCaps (R : Rows) (f : Nat → AV) : Bool := (List.range 32).all fun i => match asCap R (f i) with | some _ => true | none => false
def capAt (R : Rows) (f : Nat → AV) (i : Nat) : Cap := match asCap R (f i) with | some c => c | none => default

def asHart (R : Rows) : AV → Option Hart
  | .hart h => some h
  | v =>
    match xp R v with
    | .rcd (.cons x r) =>
      match xp R x with
      | .vec (.lit 32) 9 f =>
        match okCaps R f, rdCaps R 10 r with
        | true, some ([a, b, c, d, e, f', g, h, i, j], r') =>
          match rdInts R [.i64, .u64, .u64, .u64, .u64, .u64, .u64, .u64, .u64, .u64, .u64, .u64, .u64, .u64, .u64, .u64, .u64] r' with
          | some ([k1, k2, k3, k4, k5, k6, k7, k8, k9, k10, k11, k12, k13, k14, k15, k16, k17], .cons w .nil) =>
            match asBool R w with
            | some w => some ⟨capAt R f, a, b, c, d, e, f', g, h, i, j, k1, k2, k3, k4, k5, k6, k7, k8, k9, k10, k11, k12, k13, k14, k15, k16, k17, w⟩
            | none => none
          | _ => none
        | _, _ => none
      | _ => none
    | _ => none

inductive Sh where
  | bo
  | nu (k : IntKind)
  | cap
  | trap
  | rng
  | hart
  | en
  | pr (a b : Sh)
  | rc (f : Sh)

@[reducible] def Sh.D : Sh → Type
  | .bo => Bool
  | .nu _ => Int
  | .cap => Cap
  | .trap => Trap
  | .rng => Rng
  | .hart => Hart
  | .en => Unit
  | .pr a b => a.D × b.D
  | .rc f => f.D

def Sh.av : (s : Sh) → s.D → AV
  | .bo, x => .bool x
  | .nu k, x => .int k x
  | .cap, x => .cap x
  | .trap, x => .trap x
  | .rng, x => .rng x
  | .hart, x => .hart x
  | .en, _ => .nil
  | .pr a b, x => .cons (a.av x.1) (b.av x.2)
  | .rc f, x => .rcd (f.av x)

def Sh.rd (R : Rows) : (s : Sh) → AV → Option s.D
  | .bo, v => asBool R v
  | .nu k, v => asInt R k v
  | .cap, v => asCap R v
  | .trap, v => asTrap R v
  | .rng, v => asRng R v
  | .hart, v => asHart R v
  | .en, v => match v with | .nil => some () | _ => none
  | .pr a b, v => match v with | .cons x y => (match a.rd R x, b.rd R y with | some x, some y => some (x, y) | _, _ => none) | _ => none
  | .rc f, v => match xp R v with | .rcd fs => f.rd R fs | _ => none

section
variable {R : Rows} {β : Bt} {nx : Nat → Prop}

theorem rdCaps_eq : ∀ (n : Nat) (v r : AV) (l : List Cap), rdCaps R n v = some (l, r) → flat R β v = l.flatMap capCells ++ flat R β r ∧ sz R v = 9 * l.length + sz R r
  | 0, v, r, l, h => by simp only [rdCaps, Option.some.injEq, Prod.mk.injEq] at h; obtain ⟨rfl, rfl⟩ := h; simp
  | n + 1, v, r, l, h => by
    cases v <;> simp only [rdCaps] at h <;> try cases h
    rename_i a t
    split at h
    · rename_i c l' r' h1 h2
      simp only [Option.some.injEq, Prod.mk.injEq] at h
      obtain ⟨rfl, rfl⟩ := h
      obtain ⟨e1, e2⟩ := rdCaps_eq n t r' l' h2
      obtain ⟨c1, c2, _⟩ := asCap_eq (β := β) h1
      exact ⟨by rw [flat_cons, c1, e1]; simp, by simp only [sz, c2, e2, List.length_cons]; omega⟩
    · cases h

def intCells : List IntKind → List Int → List Value
  | k :: ks, n :: ns => .int k n :: intCells ks ns
  | _, _ => []

theorem rdInts_eq : ∀ (ks : List IntKind) (v r : AV) (l : List Int), rdInts R ks v = some (l, r) → flat R β v = intCells ks l ++ flat R β r ∧ sz R v = ks.length + sz R r
  | [], v, r, l, h => by simp only [rdInts, Option.some.injEq, Prod.mk.injEq] at h; obtain ⟨rfl, rfl⟩ := h; simp [intCells]
  | k :: ks, v, r, l, h => by
    cases v <;> simp only [rdInts] at h <;> try cases h
    rename_i a t
    split at h
    · rename_i c l' r' h1 h2
      simp only [Option.some.injEq, Prod.mk.injEq] at h
      obtain ⟨rfl, rfl⟩ := h
      obtain ⟨e1, e2⟩ := rdInts_eq ks t r' l' h2
      obtain ⟨c1, c2, _⟩ := asInt_eq (β := β) h1
      exact ⟨by rw [flat_cons, c1, e1]; rfl, by simp only [sz, c2, e2, List.length_cons]; omega⟩
    · cases h

theorem okCaps_at {f : Nat → AV} (h : okCaps R f = true) (i : Nat) (hi : i < 32) : asCap R (f i) = some (capAt R f i) := by
  have := List.all_eq_true.1 h i (List.mem_range.2 hi)
  unfold capAt
  cases hq : asCap R (f i) with
  | none => rw [hq] at this; cases this
  | some c => rfl

theorem asHart_eq {v : AV} {x : Hart} (h : asHart R v = some x) : flat R β v = hartCells x ∧ sz R v = 396 ∧ isAgg R v = true := by
  unfold asHart at h
  split at h
  · simp only [Option.some.injEq] at h; subst h; exact ⟨rfl, rfl, rfl⟩
  · rw [← xp_flat, ← xp_sz, ← xp_agg]
    split at h
    · rename_i hv y r hx
      rw [hx]
      split at h
      · rename_i f hy
        split at h
        · rename_i a b c d e f' g h' i j r' ho hr
          split at h
          · rename_i k1 k2 k3 k4 k5 k6 k7 k8 k9 k10 k11 k12 k13 k14 k15 k16 k17 w hi
            split at h
            · rename_i w' hw
              simp only [Option.some.injEq] at h
              subst h
              obtain ⟨e1, e2⟩ := rdCaps_eq (β := β) _ _ _ _ hr
              obtain ⟨e3, e4⟩ := rdInts_eq (β := β) _ _ _ _ hi
              obtain ⟨e5, e6, _⟩ := asBool_eq (β := β) hw
              have hX : flat R β y = (List.range 32).flatMap fun i => capCells (capAt R f i) := by
                rw [← xp_flat, hy, flat_vec]
                exact flatMap_congr' fun i hi => (asCap_eq (β := β) (okCaps_at ho i (List.mem_range.1 hi))).1
              have hS : sz R y = 288 := by rw [← xp_sz, hy]; rfl
              refine ⟨?_, ?_, rfl⟩
              · rw [flat_rcd, flat_cons, hX, e1, e3, flat_cons, e5, flat_nil]
                simp [hartCells, intCells]
              · simp only [sz, hS, e2, e4, e6, List.length_cons, List.length_nil]
            · cases h
          · cases h
        · cases h
      · cases h
    · cases h

theorem Sh.av_wf : ∀ (s : Sh) (x : s.D), wf R nx (s.av x)
  | .bo, _ => trivial
  | .nu _, _ => trivial
  | .cap, _ => trivial
  | .trap, _ => trivial
  | .rng, _ => trivial
  | .hart, _ => trivial
  | .en, _ => trivial
  | .pr a b, x => ⟨Sh.av_wf a x.1, Sh.av_wf b x.2⟩
  | .rc f, x => Sh.av_wf f x

/-- What is read of a value is what it is. -/
theorem Sh.rd_eq : ∀ (s : Sh) (v : AV) (x : s.D), s.rd R v = some x → flat R β v = flat R β (s.av x) ∧ sz R v = sz R (s.av x) ∧ isAgg R v = isAgg R (s.av x)
  | .bo, v, x, h => by obtain ⟨a, b, c⟩ := asBool_eq (β := β) (show asBool R v = some x from h); exact ⟨a, b, c⟩
  | .nu k, v, x, h => by obtain ⟨a, b, c⟩ := asInt_eq (β := β) (show asInt R k v = some x from h); exact ⟨a, b, c⟩
  | .cap, v, x, h => by obtain ⟨a, b, c⟩ := asCap_eq (β := β) (show asCap R v = some x from h); exact ⟨a, b, c⟩
  | .trap, v, x, h => by obtain ⟨a, b, c⟩ := asTrap_eq (β := β) (show asTrap R v = some x from h); exact ⟨a, b, c⟩
  | .rng, v, x, h => by obtain ⟨a, b, c⟩ := asRng_eq (β := β) (show asRng R v = some x from h); exact ⟨a, b, c⟩
  | .hart, v, x, h => by obtain ⟨a, b, c⟩ := asHart_eq (β := β) (show asHart R v = some x from h); exact ⟨a, b, c⟩
  | .en, v, x, h => by cases v <;> first | exact ⟨rfl, rfl, rfl⟩ | cases h
  | .pr a b, v, x, h => by
    cases v <;> first | cases h | skip
    rename_i p q
    simp only [Sh.rd] at h
    split at h
    · rename_i y z h1 h2
      simp only [Option.some.injEq] at h
      subst h
      obtain ⟨a1, a2, _⟩ := Sh.rd_eq a p y h1
      obtain ⟨b1, b2, _⟩ := Sh.rd_eq b q z h2
      exact ⟨by simp only [Sh.av, flat_cons, a1, b1], by simp only [Sh.av, sz, a2, b2], rfl⟩
    · cases h
  | .rc f, v, x, h => by
    simp only [Sh.rd] at h
    split at h
    · rename_i fs hx
      obtain ⟨a1, a2, _⟩ := Sh.rd_eq f fs x h
      rw [← xp_flat, ← xp_sz, ← xp_agg, hx]
      exact ⟨by simp only [Sh.av, flat_rcd, a1], by simp only [Sh.av, sz, a2], rfl⟩
    · cases h

theorem Sh.rd_toV {s : Sh} {v : AV} {x : s.D} (h : s.rd R v = some x) : toV R β v = toV R β (s.av x) := by
  obtain ⟨a, _, c⟩ := Sh.rd_eq (β := β) s v x h
  unfold toV tov; rw [a, c]

/-- A value without references is the same in every table of places. -/
theorem Sh.av_flat (β' : Bt) : ∀ (s : Sh) (x : s.D), flat R β' (s.av x) = flat R β (s.av x) := fun s x => flat_congr (nx := fun _ => False) (fun _ hi => hi.elim) (Sh.av_wf s x)
theorem Sh.av_toV (β' : Bt) (s : Sh) (x : s.D) : toV R β' (s.av x) = toV R β (s.av x) := toV_congr (nx := fun _ => False) (fun _ hi => hi.elim) (Sh.av_wf s x)

end
end Go.Mir

namespace Go.Mir

inductive Pa where
  | v (s : Sh)
  | p (s : Sh)

@[reducible] def Ins : List Pa → Type
  | [] => Unit
  | .v s :: r => s.D × Ins r
  | .p s :: r => s.D × Ins r

/-- The records that are led to. -/
@[reducible] def Objs : List Pa → Type
  | [] => Unit
  | .v _ :: r => Objs r
  | .p s :: r => s.D × Objs r

def objsOf : (l : List Pa) → Ins l → Objs l
  | [], _ => ()
  | .v _ :: r, x => objsOf r x.2
  | .p _ :: r, x => (x.1, objsOf r x.2)

@[reducible] def Tup : List Sh → Type
  | [] => Unit
  | s :: r => s.D × Tup r

def Tup.av : (l : List Sh) → Tup l → AV
  | [], _ => .nil
  | s :: r, x => .cons (s.av x.1) (Tup.av r x.2)

def Tup.rd (R : Rows) : (l : List Sh) → AV → Option (Tup l)
  | [], v => match v with | .nil => some () | _ => none
  | s :: r, v => match v with | .cons x y => (match s.rd R x, Tup.rd R r y with | some x, some y => some (x, y) | _, _ => none) | _ => none

inductive Re where
  | one (s : Sh)
  | tu (l : List Sh)

@[reducible] def Re.D : Re → Type
  | .one s => s.D
  | .tu l => Tup l

def Re.av : (r : Re) → r.D → AV
  | .one s, x => s.av x
  | .tu l, x => .tup (Tup.av l x)

def Re.rd (R : Rows) : (r : Re) → AV → Option r.D
  | .one s, v => s.rd R v
  | .tu l, v => match v with | .tup vs => Tup.rd R l vs | _ => none

def cnt : List Pa → Nat
  | [] => 0
  | .v _ :: r => cnt r
  | .p _ :: r => cnt r + 1

def canA : (l : List Pa) → Ins l → Nat → List AV
  | [], _, _ => []
  | .v s :: r, x, k => s.av x.1 :: canA r x.2 k
  | .p _ :: r, x, k => .ptr k [] :: canA r x.2 (k + 1)

def objM : (l : List Pa) → Objs l → Nat → Mem
  | [], _, _ => []
  | .v _ :: r, z, k => objM r z k
  | .p s :: r, z, k => (k, s.av z.1) :: objM r z.2 (k + 1)

def rdM (R : Rows) : (l : List Pa) → Nat → Mem → Option (Objs l)
  | [], _, _ => some ()
  | .v _ :: r, k, m => rdM R r k m
  | .p s :: r, k, m => match s.rd R (lk m k), rdM R r (k + 1) m with | some z, some zs => some (z, zs) | _, _ => none

/-- A function's run at numbers and records alone. -/
def runT (C : Ctx) (fn : Func) (l : List Pa) (re : Re) (x : Ins l) : T (re.D × Objs l) :=
  fnEv C fn (canA l x 0) (objM l (objsOf l x) 0) (cnt l) fun o m' _ =>
    match o with
    | .ret v => (match re.rd C.R v, rdM C.R l 0 m' with | some y, some z => .ret (y, z) | _, _ => .fail 91)
    | .pan _ => .fail 92

abbrev Vw := List (Nat × List Stp)

def notIn (i : Nat) : Vw → Bool
  | [] => true
  | (j, _) :: r => bif Nat.beq i j then false else notIn i r

def rdIn (R : Rows) : (l : List Pa) → List AV → (Nat → AV) → Option (Ins l × List Prop × Vw)
  | [], as, _ => match as with | [] => some ((), [], []) | _ => none
  | .v s :: r, as, look =>
    match as with
    | a :: as => (match s.rd R a, rdIn R r as look with | some x, some (y, ps, vw) => some ((x, y), ps, vw) | _, _ => none)
    | [] => none
  | .p s :: r, as, look =>
    match as with
    | .ptr i p :: as =>
      match nav R (look i) p with
      | some (qs, v) =>
        match s.rd R v, rdIn R r as look with
        | some x, some (y, ps, vw) => (match notIn i vw with | true => some ((x, y), qs ++ ps, (i, p) :: vw) | false => none)
        | _, _ => none
      | none => none
    | _ => none

/-- A function that writes nothing, by shapes. -/
def pspec (R : Rows) (l : List Pa) (re : Re) (pre : Ins l → List Prop) (f : Ins l → re.D) : PSpec := fun args look =>
  match rdIn R l args look with
  | some (x, ps, _) => some (ps ++ pre x, re.av (f x))
  | none => none

def wr {α : Type} (R : Rows) : (l : List Pa) → Objs l → Vw → Mem → (Mem → T α) → T α
  | [], _, _, m, K => K m
  | .v _ :: r, z, vw, m, K => wr R r z vw m K
  | .p s :: r, z, vw, m, K =>
    match vw with
    | (i, p) :: vw =>
      match setp R (lk m i) p (s.av z.1) with
      | some (qs, v) => T.needs qs (frc v fun v => wr R r z.2 vw ((i, v) :: m) K)
      | none => .fail 94
    | [] => .fail 95

/-- A function, by shapes. -/
def mspec (R : Rows) (l : List Pa) (re : Re) (pre : Ins l → List Prop) (F : Ins l → re.D × Objs l) : Spec := fun _ args m nx K =>
  match rdIn R l args (lk m) with
  | some (x, ps, vw) => T.needs (ps ++ pre x) (wr R l (F x).2 vw m fun m' => K (.ret (re.av (F x).1)) m' nx)
  | none => .fail 93

section
variable {R : Rows} {β : Bt} {nx : Nat → Prop}

theorem Tup.av_wf : ∀ (l : List Sh) (x : Tup l), wf R nx (Tup.av l x)
  | [], _ => trivial
  | s :: r, x => ⟨s.av_wf x.1, Tup.av_wf r x.2⟩

theorem vals_cons (a b : AV) : vals R β (.cons a b) = toV R β a :: vals R β b := rfl

theorem Tup.rd_eq : ∀ (l : List Sh) (v : AV) (x : Tup l), Tup.rd R l v = some x → vals R β v = vals R β (Tup.av l x)
  | [], v, x, h => by cases v <;> first | rfl | cases h
  | s :: r, v, x, h => by
    cases v <;> first | cases h | skip
    rename_i p q
    simp only [Tup.rd] at h
    split at h
    · rename_i y z h1 h2
      simp only [Option.some.injEq] at h
      subst h
      rw [vals_cons, Sh.rd_toV h1, Tup.rd_eq r q z h2]; rfl
    · cases h

theorem Re.av_wfe : ∀ (r : Re) (x : r.D), wfe R nx (r.av x) ∧ isUnk (r.av x) = false
  | .one s, x => ⟨wf_wfe (s.av_wf x), wf_notUnk (s.av_wf (R := R) (nx := nx) x)⟩
  | .tu l, x => ⟨Tup.av_wf l x, rfl⟩

theorem Re.rd_toV {r : Re} {v : AV} {x : r.D} (h : r.rd R v = some x) : toV R β v = toV R β (r.av x) := by
  cases r with
  | one s => exact Sh.rd_toV h
  | tu l =>
    simp only [Re.rd] at h
    split at h
    · rename_i vs
      show Value.tuple (vals R β vs).toArray = Value.tuple (vals R β (Tup.av l x)).toArray
      rw [Tup.rd_eq l vs x h]
    · cases h

theorem Re.av_toV (β' : Bt) (r : Re) (x : r.D) : toV R β' (r.av x) = toV R β (r.av x) :=
  toV_congr' (nx := fun _ => False) (fun _ hi => hi.elim) (r.av_wfe x).1

theorem Sh.rd_notUnk {s : Sh} {v : AV} {x : s.D} (h : s.rd R v = some x) : isUnk v = false := by
  cases v <;> first | rfl | skip
  cases s <;> cases h

theorem Sh.av_roomy (s : Sh) (x : s.D) (r : Reg) : roomy (s.av x) r := by cases s <;> trivial

/-! ### The records' memory -/
theorem objM_low : ∀ (l : List Pa) (z : Objs l) (k y : Nat), y < k ∨ k + cnt l ≤ y → lk (objM l z k) y = .unk
  | [], _, _, _, _ => rfl
  | .v _ :: r, z, k, y, h => objM_low r z k y h
  | .p s :: r, z, k, y, h => by
    simp only [cnt] at h
    simp only [objM]
    rw [lk_cons_ne _ (by omega), objM_low r z.2 (k + 1) y (by omega)]

theorem objM_at : ∀ (l : List Pa) (z : Objs l) (k y : Nat), k ≤ y → y < k + cnt l → ∃ (s : Sh) (x : s.D), lk (objM l z k) y = s.av x
  | [], _, _, _, h, h' => by simp [cnt] at h'; omega
  | .v _ :: r, z, k, y, h, h' => objM_at r z k y h h'
  | .p s :: r, z, k, y, h, h' => by
    simp only [cnt] at h'
    simp only [objM]
    by_cases e : y = k
    · subst e; exact ⟨s, z.1, lk_cons_same ..⟩
    · rw [lk_cons_ne _ e]; exact objM_at r z.2 (k + 1) y (by omega) (by omega)

theorem rdM_at : ∀ (l : List Pa) (k : Nat) (m : Mem) (z : Objs l), rdM R l k m = some z → ∀ y, k ≤ y → y < k + cnt l → ∃ (s : Sh) (x : s.D), lk (objM l z k) y = s.av x ∧ s.rd R (lk m y) = some x
  | [], _, _, _, _, _, h, h' => by simp [cnt] at h'; omega
  | .v _ :: r, k, m, z, hr, y, h, h' => rdM_at r k m z hr y h h'
  | .p s :: r, k, m, z, hr, y, h, h' => by
    simp only [rdM] at hr
    split at hr
    · rename_i a b h1 h2
      simp only [Option.some.injEq] at hr
      subst hr
      simp only [cnt] at h'
      simp only [objM]
      by_cases e : y = k
      · subst e; exact ⟨s, a, lk_cons_same .., h1⟩
      · rw [lk_cons_ne _ e]; exact rdM_at r (k + 1) m b h2 y (by omega) (by omega)
    · cases hr

theorem notIn_spec {i : Nat} : ∀ {vw : Vw}, notIn i vw = true → ∀ q ∈ vw, q.1 ≠ i
  | (j, p) :: r, h, q, hq => by
    simp only [notIn] at h
    by_cases e : i = j
    · subst e; rw [Nat.beq_refl] at h; cases h
    · rw [beq_ne e] at h
      rcases List.mem_cons.1 hq with rfl | hq
      · exact Ne.symm e
      · exact notIn_spec h q hq

/-- What has been read of the arguments. -/
theorem rdIn_spec : ∀ (l : List Pa) (as : List AV) (look : Nat → AV) (x : Ins l) (ps : List Prop) (vw : Vw), rdIn R l as look = some (x, ps, vw) → (∀ p ∈ ps, p) → (∀ a ∈ as, wf R nx a) → ∀ k,
    vw.length = cnt l ∧ (∀ a b : Nat, ∀ q q', vw[a]? = some q → vw[b]? = some q' → a ≠ b → q.1 ≠ q'.1) ∧ (canA l x k).length = as.length ∧
    (∀ (j i : Nat) (p : List Stp), vw[j]? = some (i, p) → nx i ∧ ∃ (s : Sh) (z : s.D) (qs : List Prop) (v : AV), lk (objM l (objsOf l x) k) (k + j) = s.av z ∧ nav R (look i) p = some (qs, v) ∧ (∀ q ∈ qs, q) ∧ s.rd R v = some z) ∧
    (∀ β₀ : Bt, (∀ (j i : Nat) (p : List Stp), vw[j]? = some (i, p) → addrOf (β₀.reg (k + j)) 0 = addrOf (β.reg i) (poff p)) → (canA l x k).map (toV R β₀) = as.map (toV R β)) ∧
    (∀ a ∈ canA l x k, wf R (fun y => k ≤ y ∧ y < k + cnt l) a)
  | [], as, look, x, ps, vw, h, hp, hw, k => by
    cases as with
    | cons _ _ => cases h
    | nil =>
      simp only [rdIn, Option.some.injEq, Prod.mk.injEq] at h
      obtain ⟨_, rfl, rfl⟩ := h
      exact ⟨rfl, fun _ _ _ _ h => by simp at h, rfl, fun _ _ _ h => by simp at h, fun _ _ => rfl, fun _ h => by simp [canA] at h⟩
  | .v s :: r, as, look, x, ps, vw, h, hp, hw, k => by
    cases as with
    | nil => cases h
    | cons a as =>
      simp only [rdIn] at h
      split at h
      · rename_i y z ps' vw' h1 h2
        simp only [Option.some.injEq, Prod.mk.injEq] at h
        obtain ⟨rfl, rfl, rfl⟩ := h
        obtain ⟨e1, e2, e3, e4, e5, e6⟩ := rdIn_spec r as look z ps' vw' h2 hp (fun a ha => hw a (by simp [ha])) k
        refine ⟨e1, e2, by simp [canA, e3], e4, fun β₀ hb => ?_, fun b hb => ?_⟩
        · simp only [canA, List.map_cons]
          rw [e5 β₀ hb, Sh.rd_toV h1, Sh.av_toV β₀]
        · rcases List.mem_cons.1 hb with rfl | hb
          · exact s.av_wf _
          · exact e6 b hb
      · cases h
  | .p s :: r, as, look, x, ps, vw, h, hp, hw, k => by
    simp only [rdIn] at h
    split at h
    · rename_i i p as
      split at h
      · rename_i qs v hn
        split at h
        · rename_i y z ps' vw' h1 h2
          split at h
          · rename_i hni
            simp only [Option.some.injEq, Prod.mk.injEq] at h
            obtain ⟨rfl, rfl, rfl⟩ := h
            obtain ⟨e1, e2, e3, e4, e5, e6⟩ := rdIn_spec r as look z ps' vw' h2 (fun q hq => hp q (by simp [hq])) (fun a ha => hw a (by simp [ha])) (k + 1)
            have hni := notIn_spec hni
            refine ⟨by simp [cnt, e1], fun a b q q' ha hb hab => ?_, by simp [canA, e3], fun j i' p' hj => ?_, fun β₀ hb => ?_, fun b hb => ?_⟩
            · cases a with
              | zero =>
                cases b with
                | zero => exact absurd rfl hab
                | succ b =>
                  simp at ha hb
                  subst ha
                  exact (hni q' (List.mem_of_getElem? hb)).symm
              | succ a =>
                cases b with
                | zero =>
                  simp at ha hb
                  subst hb
                  exact hni q (List.mem_of_getElem? ha)
                | succ b =>
                  simp at ha hb
                  exact e2 a b q q' ha hb (by omega)
            · cases j with
              | zero =>
                simp at hj
                obtain ⟨rfl, rfl⟩ := hj
                exact ⟨hw (.ptr i p) (by simp), s, y, qs, v, lk_cons_same .., hn, fun q hq => hp q (by simp [hq]), h1⟩
              | succ j =>
                simp at hj
                obtain ⟨n1, s', z', qs', v', f1, f2, f3, f4⟩ := e4 j i' p' hj
                refine ⟨n1, s', z', qs', v', ?_, f2, f3, f4⟩
                simp only [objsOf, objM]
                rw [lk_cons_ne _ (by omega), show k + (j + 1) = k + 1 + j by omega]
                exact f1
            · simp only [canA, List.map_cons]
              rw [e5 β₀ fun j i' p' hj => by rw [show k + 1 + j = k + (j + 1) by omega]; exact hb (j + 1) i' p' (by simpa using hj)]
              congr 1
              show Value.pointer (some (addrOf (β₀.reg k) (poff []))) = Value.pointer (some (addrOf (β.reg i) (poff p)))
              rw [show addrOf (β₀.reg k) (poff []) = addrOf (β₀.reg (k + 0)) 0 from rfl, hb 0 i p rfl]
            · rcases List.mem_cons.1 hb with rfl | hb
              · exact ⟨Nat.le_refl _, by simp only [cnt]; omega⟩
              · refine wf_mono (fun y hy => ?_) _ (e6 b hb)
                simp only [cnt]; omega
          · cases h
        · cases h
      · cases h
    · cases h

end
end Go.Mir

namespace Go.Mir

/-- A function of the program whose code the evaluator can run. -/
structure FnIs (P : Program) (C : Ctx) (g : FuncId) (fn : Func) (n : Nat) : Prop where
  at_ : P.funcs[g]? = some fn
  enters : ∀ args w, (callFunc g args).run P w = .ok (.enter g args) w
  body : ∃ c, fn.body = some c ∧ codeOk fn.ntmps c = true ∧ Blks (fun id c => ∀ S, C.B id = some S → BSound P C fn.ntmps [] id c S) c
  args : n ≤ fn.ntmps

theorem Same.tight {fp : Nat → Nat → Prop} {w w' : World} (h : Same fp w w') (hc : ∀ b j, b < w.heap.size → fp b j → w'.cell? ⟨b, j, none⟩ = w.cell? ⟨b, j, none⟩) : Same (fun _ _ => False) w w' := by
  refine ⟨h.grow, h.io, h.obj, fun b c e fr hb => ?_⟩
  obtain ⟨c', h1, h2, h3⟩ := h.cells b c e fr hb
  refine ⟨c', h1, h2, fun j _ => ?_⟩
  by_cases hf : fp b j
  · have := hc b j (Array.getElem?_eq_some_iff.1 hb).1 hf
    rw [cell?_none, cell?_none, hb, h1] at this
    exact this
  · exact h3 j hf

section
variable {P : Program} {C : Ctx} {β : Bt}

theorem Sh.av_sz {R : Rows} : ∀ (s : Sh) (x y : s.D), sz R (s.av x) = sz R (s.av y)
  | .bo, _, _ => rfl
  | .nu _, _, _ => rfl
  | .cap, _, _ => rfl
  | .trap, _, _ => rfl
  | .rng, _, _ => rfl
  | .hart, _, _ => rfl
  | .en, _, _ => rfl
  | .pr a b, x, y => by simp only [Sh.av, sz, Sh.av_sz a x.1 y.1, Sh.av_sz b x.2 y.2]
  | .rc f, x, y => Sh.av_sz f x y

theorem objM_sz {R : Rows} : ∀ (l : List Pa) (z z' : Objs l) (k y : Nat), sz R (lk (objM l z k) y) = sz R (lk (objM l z' k) y)
  | [], _, _, _, _ => rfl
  | .v _ :: r, z, z', k, y => objM_sz r z z' k y
  | .p s :: r, z, z', k, y => by
    simp only [objM]
    by_cases e : y = k
    · subst e; rw [lk_cons_same, lk_cons_same]; exact s.av_sz _ _
    · rw [lk_cons_ne _ e, lk_cons_ne _ e]; exact objM_sz r z.2 z'.2 (k + 1) y

/-- The table of places for the records that are led to. -/
def subBt (β : Bt) (R : Rows) (vw : Vw) (m₀ : Mem) : Bt :=
  { β with reg := fun y => match vw[y]? with | some (i, p) => ⟨(β.reg i).block, (β.reg i).off + poff p, sz R (lk m₀ y), 0⟩ | none => default }

theorem subBt_reg {R : Rows} {vw : Vw} {m₀ : Mem} {y i : Nat} {p : List Stp} (h : vw[y]? = some (i, p)) : (subBt β R vw m₀).reg y = ⟨(β.reg i).block, (β.reg i).off + poff p, sz R (lk m₀ y), 0⟩ := by simp [subBt, h]

theorem rdIn_len {R : Rows} : ∀ (l : List Pa) (as : List AV) (look : Nat → AV) (x : Ins l) (ps : List Prop) (vw : Vw), rdIn R l as look = some (x, ps, vw) → as.length = l.length
  | [], as, look, x, ps, vw, h => by cases as <;> first | rfl | cases h
  | .v s :: r, as, look, x, ps, vw, h => by
    cases as with
    | nil => cases h
    | cons a as =>
      simp only [rdIn] at h
      split at h
      · rename_i y z ps' vw' h1 h2
        simp [rdIn_len r as look z ps' vw' h2]
      · cases h
  | .p s :: r, as, look, x, ps, vw, h => by
    simp only [rdIn] at h
    split at h
    · split at h
      · split at h
        · rename_i y z ps' vw' h1 h2
          simp [rdIn_len r _ look z ps' vw' h2]
        · cases h
      · cases h
    · cases h

/-- A part of an object, as an object. -/
theorem part_own {R : Rows} {m : Mem} {nx : Nat → Prop} {w : World} (hR : Rel R β m nx w) {i : Nat} {p : List Stp} {qs : List Prop} {v : AV} {s : Sh} {z : s.D} (hi : nx i) (hn : nav R (lk m i) p = some (qs, v)) (hq : ∀ q ∈ qs, q) (hs : s.rd R v = some z) :
    isUnk (lk m i) = false ∧ poff p + sz R (s.av z) ≤ sz R (lk m i) ∧ sz R (lk m i) ≤ (β.reg i).size ∧ ∀ β₀ : Bt, Own w ⟨(β.reg i).block, (β.reg i).off + poff p, sz R (s.av z), 0⟩ (flat R β₀ (s.av z)) := by
  have hu : isUnk (lk m i) = false := by
    cases hq' : lk m i <;> first | rfl | skip
    rw [hq'] at hn
    have := nav_unk hn
    subst this
    have := Sh.rd_notUnk hs
    cases this
  obtain ⟨ho, hw, _⟩ := hR.own i hi hu
  obtain ⟨gv, pre, post, h1, h2⟩ := nav_spec (β := β) p (lk m i) v qs hn hq hw
  obtain ⟨e1, e2, _⟩ := s.rd_eq (R := R) (β := β) v z hs
  have hl := flat_len (β := β) (lk m i) hw
  rw [h2, e1] at hl
  simp only [List.length_append, flat_len (β := β) _ (s.av_wf (R := R) (nx := nx) z), h1] at hl
  have hfit := ho.fits
  rw [h2, e1] at hfit
  simp only [List.length_append, flat_len (β := β) _ (s.av_wf (R := R) (nx := nx) z), h1] at hfit
  have ad : ∀ j, addrOf ⟨(β.reg i).block, (β.reg i).off + poff p, sz R (s.av z), 0⟩ j = addrOf (β.reg i) (poff p + j) := fun j => by simp [addrOf, Nat.add_assoc]
  refine ⟨hu, by omega, by omega, fun β₀ => ⟨?_, fun j hj => ?_, fun j hj => ?_, fun j u hu => ?_, ho.blk⟩⟩
  · rw [s.av_flat (β := β) β₀, flat_len _ (s.av_wf (R := R) (nx := nx) z)]; exact Nat.le_refl _
  · rw [ad]; exact ho.there _ (by simp only at hj; omega)
  · rw [ad]; exact ho.free _ (by simp only at hj; omega)
  · rw [ad]
    rw [s.av_flat (β := β) β₀] at hu
    refine ho.cells _ _ ?_
    rw [h2, e1, ← h1]
    exact list_mid hu

/-- A call, with the records that it is led to as objects of their own. -/
theorem lift_call (hC : CtxOk P C) (hmix : P.follows .mixedOrders = true) {g : FuncId} {fn : Func} {l : List Pa} {re : Re} (hf : FnIs P C g fn l.length) {m : Mem} {nx : Nat → Prop} {w : World} (hR : Rel C.R β m nx w) {as : List AV} (hw : ∀ a ∈ as, wf C.R nx a)
    {x : Ins l} {ps : List Prop} {vw : Vw} (hr : rdIn C.R l as (lk m) = some (x, ps, vw)) (hp : ∀ p ∈ ps, p) {Q : re.D × Objs l → Prop} (ht : (runT C fn l re x).holds Q) (hlen : as.length = l.length) :
    Calls P g (as.map (toV C.R β)).toArray w fun e w' => ∃ y z, Q (y, z) ∧ e = .returned (toV C.R β (re.av y)) ∧ Same (FP C.R (subBt β C.R vw (objM l (objsOf l x) 0)) (objM l (objsOf l x) 0) (bel (cnt l))) w w' ∧
      ∀ j i p, vw[j]? = some (i, p) → ∃ (s : Sh) (x' : s.D), lk (objM l z 0) j = s.av x' ∧ sz C.R (s.av x') = sz C.R (lk (objM l (objsOf l x) 0) j) ∧ ∀ t u, (flat C.R β (s.av x'))[t]? = some u → w'.cell? (addrOf (β.reg i) (poff p + t)) = some u := by
  obtain ⟨e1, e2, e3, e4, e5, e6⟩ := rdIn_spec (β := β) l as (lk m) x ps vw hr hp hw 0
  have hget : ∀ y, y < cnt l → ∃ i p, vw[y]? = some (i, p) := fun y hy => ⟨(vw[y]'(by omega)).1, (vw[y]'(by omega)).2, by simp [show y < vw.length by omega]⟩
  have hR₀ : Rel C.R (subBt β C.R vw (objM l (objsOf l x) 0)) (objM l (objsOf l x) 0) (bel (cnt l)) w := by
    refine ⟨fun y hy hu => ?_, fun y hy => ?_, fun a b ha hb hab _ _ => ?_⟩
    · obtain ⟨i, p, hv⟩ := hget y hy
      obtain ⟨hi, s, z, qs, v, f1, f2, f3, f4⟩ := e4 y i p hv
      rw [Nat.zero_add] at f1
      obtain ⟨_, _, _, ho⟩ := part_own hR hi f2 f3 f4
      rw [subBt_reg hv, f1]
      exact ⟨ho _, s.av_wf _, s.av_roomy _ _⟩
    · rw [objM_low l _ 0 y (by unfold bel at hy; omega)]; rfl
    · obtain ⟨i, p, hv⟩ := hget a ha
      obtain ⟨i', p', hv'⟩ := hget b hb
      obtain ⟨hi, s, z, qs, v, f1, f2, f3, f4⟩ := e4 a i p hv
      obtain ⟨hi', s', z', qs', v', f1', f2', f3', f4'⟩ := e4 b i' p' hv'
      rw [Nat.zero_add] at f1 f1'
      obtain ⟨hu, g1, g2, _⟩ := part_own hR hi f2 f3 f4
      obtain ⟨hu', g1', g2', _⟩ := part_own hR hi' f2' f3' f4'
      have := hR.apart i i' hi hi' (e2 a b _ _ hv hv' hab) hu hu'
      rw [subBt_reg hv, subBt_reg hv', f1, f1']
      unfold Reg.apart at this ⊢
      simp only []
      omega
  obtain ⟨c, hb, hok, hB⟩ := hf.body
  have hargs := e5 (subBt β C.R vw (objM l (objsOf l x) 0)) fun j i p hj => by rw [Nat.zero_add, subBt_reg hj]; simp [addrOf]
  unfold runT at ht
  have := fnEv_calls hC hmix hf.at_ hb hok hB (by rw [e3, hlen]; exact hf.args) hR₀ (fun a ha => wf_mono (fun y hy => by unfold bel; omega) _ (e6 a ha)) ht
  rw [hargs] at this
  refine this.mono fun e w' ⟨o, m', nx', β', k1, k2, k3, k4⟩ => ?_
  cases o with
  | pan v => exact k1.elim
  | ret v =>
    obtain ⟨k5, k6, rfl⟩ := k4
    simp only [] at k1
    split at k1
    · rename_i y z hy hz
      refine ⟨y, z, k1, ?_, k3.same, fun j i p hj => ?_⟩
      · rw [Re.rd_toV hy, Re.av_toV β' (β := β)]
      · have hjl : j < cnt l := by have := (List.getElem?_eq_some_iff.1 hj).1; omega
        obtain ⟨s, x', h1, h2⟩ := rdM_at l 0 m' z hz j (by omega) (by omega)
        have hnx : bel nx' j := k3.le j hjl
        obtain ⟨ho, hwf, _⟩ := k2.own j hnx (Sh.rd_notUnk h2)
        obtain ⟨f1, f2, _⟩ := s.rd_eq (R := C.R) (β := β') (lk m' j) x' h2
        have hreg := (k3.alike j hjl).1
        rw [hreg, subBt_reg hj] at ho
        refine ⟨s, x', h1, ?_, fun t u ht => ?_⟩
        · rw [← h1]; exact objM_sz l _ _ 0 j
        · have := ho.cells t u (by rw [f1, s.av_flat (β := β) β']; exact ht)
          simpa [addrOf, Nat.add_assoc] using this
    · exact k1.elim

theorem pspec_sound (hC : CtxOk P C) (hmix : P.follows .mixedOrders = true) {g : FuncId} {fn : Func} {l : List Pa} {re : Re} {pre : Ins l → List Prop} {f : Ins l → re.D} (hf : FnIs P C g fn l.length)
    (ht : ∀ x : Ins l, (∀ p ∈ pre x, p) → (runT C fn l re x).holds fun r => r = (f x, objsOf l x)) : PSound P C.R g (pspec C.R l re pre f) := by
  refine ⟨fun as m ps v h hp β nx w hR hw => ?_⟩
  unfold pspec at h
  split at h
  · rename_i x qs vw hr
    simp only [Option.some.injEq, Prod.mk.injEq] at h
    obtain ⟨rfl, rfl⟩ := h
    have hlen : as.length = l.length := rdIn_len l as _ _ _ _ hr
    obtain ⟨g1, g2⟩ := re.av_wfe (R := C.R) (nx := nx) (f x)
    refine ⟨g1, g2, .inr ⟨_, _, hf.enters _ w, ?_⟩⟩
    refine (lift_call hC hmix hf hR hw hr (fun p hq => hp p (by simp [hq])) (ht x fun p hq => hp p (by simp [hq])) hlen).mono fun e w' ⟨y, z, k1, k2, k3, k4⟩ => ?_
    simp only [Prod.mk.injEq] at k1
    obtain ⟨rfl, rfl⟩ := k1
    refine ⟨k2, k3.tight fun b j hb hx => ?_⟩
    obtain ⟨i, hi, _, h1, h2, h3⟩ := hx
    obtain ⟨e1, _, _, e4, _, _⟩ := rdIn_spec (β := β) l as (lk m) x qs vw hr (fun p hq => hp p (by simp [hq])) hw 0
    have hil : i < vw.length := by rw [e1]; exact hi
    have hv : vw[i]? = some (vw[i].1, vw[i].2) := by simp [hil]
    obtain ⟨hni, s, z, qs', v', f1, f2, f3, f4⟩ := e4 i _ _ hv
    rw [Nat.zero_add] at f1
    obtain ⟨_, _, _, ho⟩ := part_own hR hni f2 f3 f4
    obtain ⟨s', x', c1, _, c3⟩ := k4 i _ _ hv
    rw [subBt_reg hv] at h1 h2 h3
    simp only at h1 h2 h3
    rw [f1] at h3 c1
    -- one cell
    have hfl : flat C.R β (s.av z) = flat C.R β (s'.av x') := by rw [c1]
    have hl := flat_len (R := C.R) (β := β) _ (s.av_wf (R := C.R) (nx := nx) z)
    obtain ⟨t, ht'⟩ : ∃ t, j = (β.reg vw[i].1).off + poff vw[i].2 + t := ⟨j - ((β.reg vw[i].1).off + poff vw[i].2), by omega⟩
    have htl : t < (flat C.R β (s.av z)).length := by omega
    have a1 := (ho β).cells t _ (List.getElem?_eq_getElem htl)
    have a2 := c3 t _ (by rw [← hfl]; exact List.getElem?_eq_getElem htl)
    have ad : (⟨b, j, none⟩ : Addr) = addrOf (β.reg vw[i].1) (poff vw[i].2 + t) := by rw [h1, ht']; simp [addrOf, Nat.add_assoc]
    rw [ad, a2]
    rw [← a1]
    simp [addrOf, Nat.add_assoc]
  · cases h

end
end Go.Mir

namespace Go.Mir

section
variable {P : Program} {C : Ctx} {β : Bt}

theorem wr_spec {R : Rows} {α : Type} {Q : α → Prop} {K : Mem → T α} : ∀ (l : List Pa) (z : Objs l) (vw : Vw) (m : Mem) (k : Nat), vw.length = cnt l → (∀ a b : Nat, ∀ q q', vw[a]? = some q → vw[b]? = some q' → a ≠ b → q.1 ≠ q'.1) →
    (wr R l z vw m K).holds Q → ∃ m', (K m').holds Q ∧ (∀ y, (∀ q ∈ vw, q.1 ≠ y) → lk m' y = lk m y) ∧
      ∀ j i p, vw[j]? = some (i, p) → ∃ qs v, setp R (lk m i) p (lk (objM l z k) (k + j)) = some (qs, v) ∧ (∀ q ∈ qs, q) ∧ lk m' i = v ∧ isUnk v = false
  | [], z, vw, m, k, hl, _, h => by
    have : vw = [] := List.eq_nil_of_length_eq_zero hl
    subst this
    exact ⟨m, h, fun _ _ => rfl, fun j i p hj => by simp at hj⟩
  | .v s :: r, z, vw, m, k, hl, hd, h => wr_spec r z vw m k hl hd h
  | .p s :: r, z, vw, m, k, hl, hd, h => by
    cases vw with
    | nil => simp [cnt] at hl
    | cons q vw =>
      obtain ⟨i, p⟩ := q
      simp only [wr] at h
      split at h
      · rename_i qs v hs
        obtain ⟨h1, h2⟩ := T.holds_needs h
        obtain ⟨h3, h4⟩ := frc_holds h2
        have hni : ∀ q ∈ vw, q.1 ≠ i := fun q hq => by
          obtain ⟨b, hb⟩ := List.getElem?_of_mem hq
          exact (hd 0 (b + 1) (i, p) q rfl (by simpa using hb) (by omega)).symm
        obtain ⟨m', k1, k2, k3⟩ := wr_spec r z.2 vw ((i, v) :: m) (k + 1) (by simpa [cnt] using hl) (fun a b q q' ha hb hab => hd (a + 1) (b + 1) q q' (by simpa using ha) (by simpa using hb) (by omega)) h4
        refine ⟨m', k1, fun y hy => ?_, fun j i' p' hj => ?_⟩
        · rw [k2 y fun q hq => hy q (List.mem_cons_of_mem _ hq), lk_cons_ne _ (Ne.symm (hy (i, p) (List.mem_cons_self ..)))]
        · cases j with
          | zero =>
            simp at hj
            obtain ⟨rfl, rfl⟩ := hj
            refine ⟨qs, v, ?_, h1, ?_, h3⟩
            · simp only [objM, Nat.add_zero]; rw [lk_cons_same]; exact hs
            · rw [k2 i hni, lk_cons_same]
          | succ j =>
            simp at hj
            obtain ⟨qs', v', g1, g2, g3, g4⟩ := k3 j i' p' hj
            have hne : i' ≠ i := hni (i', p') (List.mem_of_getElem? hj)
            rw [lk_cons_ne _ hne] at g1
            refine ⟨qs', v', ?_, g2, g3, g4⟩
            simp only [objM]
            rw [lk_cons_ne _ (by omega), show k + (j + 1) = k + 1 + j by omega]
            exact g1
      · exact h.elim

theorem mspec_sound (hC : CtxOk P C) (hmix : P.follows .mixedOrders = true) {g : FuncId} {fn : Func} {l : List Pa} {re : Re} {pre : Ins l → List Prop} {F : Ins l → re.D × Objs l} (hf : FnIs P C g fn l.length)
    (ht : ∀ x : Ins l, (∀ p ∈ pre x, p) → (runT C fn l re x).holds fun r => r = F x) : SSound P C.R g (mspec C.R l re pre F) := by
  refine ⟨hf.enters, fun α as m nx K Q h β w hR hw => ?_⟩
  unfold mspec at h
  split at h
  · rename_i x qs vw hr
    obtain ⟨h1, h2⟩ := T.holds_needs h
    have hqs : ∀ p ∈ qs, p := fun p hq => h1 p (by simp [hq])
    have hpre : ∀ p ∈ pre x, p := fun p hq => h1 p (by simp [hq])
    obtain ⟨e1, e2, _, e4, _, _⟩ := rdIn_spec (β := β) l as (lk m) x qs vw hr hqs hw 0
    obtain ⟨m', m1, m2, m3⟩ := wr_spec l (F x).2 vw m 0 e1 e2 h2
    have hlen : as.length = l.length := rdIn_len l as _ _ _ _ hr
    refine (lift_call hC hmix hf hR hw hr hqs (ht x hpre) hlen).mono fun e w' ⟨y, z, k1, k2, k3, k4⟩ => ?_
    obtain ⟨rfl, rfl⟩ : y = (F x).1 ∧ z = (F x).2 := by rw [← k1]; exact ⟨rfl, rfl⟩
    obtain ⟨g1, g2⟩ := re.av_wfe (R := C.R) (nx := bel nx) (F x).1
    -- what is known of each record
    have key : ∀ (j i : Nat) (p : List Stp), vw[j]? = some (i, p) → bel nx i ∧ isUnk (lk m i) = false ∧ ∃ (pre' old post : List Value) (s : Sh) (x' : s.D), lk (objM l (F x).2 0) j = s.av x' ∧ pre'.length = poff p ∧ old.length = sz C.R (s.av x') ∧
        sz C.R (lk (objM l (objsOf l x) 0) j) = sz C.R (s.av x') ∧ flat C.R β (lk m i) = pre' ++ (old ++ post) ∧ flat C.R β (lk m' i) = pre' ++ (flat C.R β (s.av x') ++ post) ∧ wf C.R (bel nx) (lk m' i) ∧ sz C.R (lk m' i) = sz C.R (lk m i) ∧
        roomy (lk m' i) (β.reg i) ∧ poff p + sz C.R (s.av x') ≤ sz C.R (lk m i) ∧ sz C.R (lk m i) ≤ (β.reg i).size ∧ ∀ t u, (flat C.R β (s.av x'))[t]? = some u → w'.cell? (addrOf (β.reg i) (poff p + t)) = some u := by
      intro j i p hv
      obtain ⟨hni, s, z', qs', v', f1, f2, f3, f4⟩ := e4 j i p hv
      rw [Nat.zero_add] at f1
      obtain ⟨hu, l1, l2, _⟩ := part_own hR hni f2 f3 f4
      obtain ⟨s', x', c1, c2, c3⟩ := k4 j i p hv
      obtain ⟨qs2, v2, d1, d2, d3, d4⟩ := m3 j i p hv
      rw [Nat.zero_add, c1] at d1
      obtain ⟨_, hwi, hro⟩ := hR.own i hni hu
      obtain ⟨a1, a2, pr, old, po, a3, a4, a5, a6⟩ := setp_spec (β := β) p.length p (Nat.le_refl _) (lk m i) (s'.av x') v2 qs2 d1 d2 hwi (s'.av_wf x')
      subst d3
      rw [f1] at c2
      refine ⟨hni, hu, pr, old, po, s', x', c1, a3, a4, by rw [f1]; exact c2.symm, a5, a6, a1, a2, ?_, by omega, l2, c3⟩
      exact setp_roomy d1 (s'.av_roomy x') hro
    have notmem : ∀ i, (∀ (j : Nat) (p : List Stp), vw[j]? ≠ some (i, p)) → lk m' i = lk m i := fun i hi => m2 i fun q hq e => by
      obtain ⟨b, hb⟩ := List.getElem?_of_mem hq
      exact hi b q.2 (by rw [hb, ← e])
    -- the cells that may be others
    have hfp : ∀ b j, FP C.R (subBt β C.R vw (objM l (objsOf l x) 0)) (objM l (objsOf l x) 0) (bel (cnt l)) b j → ∃ (a i : Nat) (p : List Stp) (s : Sh) (x' : s.D), vw[a]? = some (i, p) ∧ lk (objM l (F x).2 0) a = s.av x' ∧ b = (β.reg i).block ∧ (β.reg i).off + poff p ≤ j ∧ j < (β.reg i).off + poff p + sz C.R (s.av x') := by
      rintro b j ⟨a, ha, _, h1, h2, h3⟩
      have hal : a < vw.length := by rw [e1]; exact ha
      have hv : vw[a]? = some (vw[a].1, vw[a].2) := by simp [hal]
      obtain ⟨_, _, _, _, _, s, x', q1, _, _, q4, _⟩ := key a _ _ hv
      rw [subBt_reg hv] at h1 h2 h3
      rw [q4] at h3
      exact ⟨a, _, _, s, x', hv, q1, h1, h2, h3⟩
    have live : ∀ i, isUnk (lk m' i) = isUnk (lk m i) := fun i => by
      by_cases hex : ∃ (j : Nat) (p : List Stp), vw[j]? = some (i, p)
      · obtain ⟨j, p, hv⟩ := hex
        obtain ⟨_, hu, _, _, _, _, _, _, _, _, _, _, _, hwf, _⟩ := key j i p hv
        rw [hu, wf_notUnk hwf]
      · rw [notmem i fun j p hv => hex ⟨j, p, hv⟩]
    refine ⟨.ret (re.av (F x).1), m', nx, β, m1, ⟨fun i hi hu => ?_, fun i hi => ?_, fun a b ha hb hab hau hbu => ?_⟩, ⟨fun _ h => h, Alike.refl, k3.mono fun b j _ hx => ?_, fun b j _ hx => ?_⟩, g1, g2, k2⟩
    · by_cases hex : ∃ (j : Nat) (p : List Stp), vw[j]? = some (i, p)
      · obtain ⟨j, p, hv⟩ := hex
        obtain ⟨_, hu', pr, old, po, s, x', q1, q2, q3, q4, q5, q6, q7, q8, q9, q10, q11, q12⟩ := key j i p hv
        obtain ⟨ho, _, _⟩ := hR.own i hi hu'
        refine ⟨⟨?_, fun t ht => ?_, fun t ht => ?_, fun t u ht => ?_, Nat.lt_of_lt_of_le ho.blk k3.grow⟩, q7, q9⟩
        · rw [flat_len _ q7]; omega
        · have := ho.there t ht
          unfold addrOf at this ⊢
          rw [k3.there _ _ ho.blk, this]
        · have := ho.free t ht
          unfold addrOf at this ⊢
          rw [k3.frozen _ _ ho.blk, this]
        · rw [q6] at ht
          have hlx : (flat C.R β (s.av x')).length = sz C.R (s.av x') := flat_len _ (s.av_wf (R := C.R) (nx := bel nx) x')
          have outside : t < poff p ∨ poff p + sz C.R (s.av x') ≤ t → t < sz C.R (lk m i) → (flat C.R β (lk m i))[t]? = some u → w'.cell? (addrOf (β.reg i) t) = some u := by
            intro hout htl hold
            have hc := ho.cells t u hold
            unfold addrOf at hc ⊢
            rw [k3.cell _ _ ho.blk fun hx => ?_, hc]
            obtain ⟨a, i', p', s', x'', hv', w1, w2, w3, w4⟩ := hfp _ _ hx
            obtain ⟨hni', hu'', _, _, _, s3, x3, y1, _, _, _, _, _, _, _, _, y10, y11, _⟩ := key a i' p' hv'
            have hsz : sz C.R (s3.av x3) = sz C.R (s'.av x'') := by rw [← y1, ← w1]
            by_cases eji : a = j
            · subst eji
              rw [hv] at hv'
              simp only [Option.some.injEq, Prod.mk.injEq] at hv'
              obtain ⟨rfl, rfl⟩ := hv'
              have hsz2 : sz C.R (s'.av x'') = sz C.R (s.av x') := by rw [← w1, ← q1]
              omega
            · have := hR.apart i' i hni' hi (e2 a j _ _ hv' hv eji) hu'' hu'
              unfold Reg.apart at this
              omega
          by_cases h1 : t < pr.length
          · rw [List.getElem?_append_left h1] at ht
            exact outside (.inl (by omega)) (by omega) (by rw [q5, List.getElem?_append_left h1]; exact ht)
          · rw [List.getElem?_append_right (by omega)] at ht
            by_cases h2 : t - pr.length < (flat C.R β (s.av x')).length
            · rw [List.getElem?_append_left h2] at ht
              have := q12 (t - pr.length) u ht
              rwa [show poff p + (t - pr.length) = t by omega] at this
            · rw [List.getElem?_append_right (by omega)] at ht
              have hlo : (flat C.R β (lk m i))[t]? = some u := by
                rw [q5, List.getElem?_append_right (by omega), List.getElem?_append_right (by omega)]
                rw [show t - pr.length - old.length = t - pr.length - (flat C.R β (s.av x')).length by omega]
                exact ht
              refine outside (.inr (by omega)) ?_ hlo
              have := (List.getElem?_eq_some_iff.1 hlo).1
              rwa [flat_len _ (hR.own i hi hu').2.1] at this
      · have hlk := notmem i fun j p hv => hex ⟨j, p, hv⟩
        rw [hlk] at hu ⊢
        obtain ⟨ho, hwi, hro⟩ := hR.own i hi hu
        refine ⟨ho.same k3 fun t ht hx => ?_, hwi, hro⟩
        obtain ⟨a, i', p', s', x'', hv', w1, w2, w3, w4⟩ := hfp _ _ hx
        obtain ⟨hni', hu'', _, _, _, s3, x3, y1, _, _, _, _, _, _, _, _, y10, y11, _⟩ := key a i' p' hv'
        have hsz : sz C.R (s3.av x3) = sz C.R (s'.av x'') := by rw [← y1, ← w1]
        have hne : i' ≠ i := fun e => hex ⟨a, p', by rw [hv', e]⟩
        have := hR.apart i' i hni' hi hne hu'' hu
        unfold Reg.apart at this
        unfold Reg.has at ht
        omega
    · rw [live]; exact hR.out i hi
    · rw [live] at hau hbu; exact hR.apart a b ha hb hab hau hbu
    · obtain ⟨a, i', p', s', x'', hv', w1, w2, w3, w4⟩ := hfp _ _ hx
      obtain ⟨hni', hu'', _, _, _, s3, x3, y1, _, _, _, _, _, _, _, _, y10, y11, _⟩ := key a i' p' hv'
      have hsz : sz C.R (s3.av x3) = sz C.R (s'.av x'') := by rw [← y1, ← w1]
      exact ⟨i', hni', hu'', w2, by omega, by omega⟩
    · obtain ⟨i, hi, hu, h1, h2, h3⟩ := hx
      rw [live] at hu
      refine ⟨i, hi, hu, h1, h2, ?_⟩
      by_cases hex : ∃ (j : Nat) (p : List Stp), vw[j]? = some (i, p)
      · obtain ⟨j, p, hv⟩ := hex
        obtain ⟨_, _, _, _, _, _, _, _, _, _, _, _, _, _, q8, _⟩ := key j i p hv
        omega
      · rw [notmem i fun j p hv => hex ⟨j, p, hv⟩] at h3; exact h3
  · exact h.elim

end
end Go.Mir

namespace Go.Mir

def fsEq : List (TypeId × Nat) → List (TypeId × Nat) → Bool
  | [], [] => true
  | a :: l, b :: k => Nat.beq a.1 b.1 && Nat.beq a.2 b.2 && fsEq l k
  | _, _ => false

def undB (P : Program) (t : TypeId) : TyD → Bool
  | .bool => match P.underlying t with | some .bool => true | _ => false
  | .int k => match P.underlying t with | some (.int j) => decide (j = k) | _ => false
  | .str => match P.underlying t with | some .string => true | _ => false
  | .ptr e => match P.underlying t with | some (.pointer f) => Nat.beq f e | _ => false
  | .slc e => match P.underlying t with | some (.slice f) => Nat.beq f e | _ => false
  | .arr n e => match P.underlying t with | some (.array m f) => Nat.beq m n && Nat.beq f e | _ => false
  | .st fs => match P.underlying t with | some (.struct fields) => fsEq (fields.toList.map fun f => (f.type, f.offset)) fs && fields.toList.all fun f => decide (f.name ≠ "_") | _ => false
  | .fnc => match P.underlying t with | some (.func ..) => true | _ => false
  | .ifc => match P.underlying t with | some (.interface _) => true | _ => false
  | .oth => false

def infoOf (P : Program) (t : TypeId) : Option (Nat × List Value) :=
  match P.info? t with
  | some i => match i.zero with | some z => some (i.size, z.cells.toList) | none => none
  | none => none

def aggB : TyD → Bool
  | .arr .. => true
  | .st _ => true
  | _ => false

def fieldsB (R : Rows) : TyD → Bool
  | .st fs => fs.all fun p => !Nat.beq (R.siz p.1) 0
  | _ => true

structure TabChk (P : Program) (R : Rows) : Prop where
  und : (R.all fun r => undB P r.1 r.2.2) = true
  info : (R.map fun r => infoOf P r.1) = R.map fun r => some (r.2.1, R.zc 9 r.1)
  len : (R.all fun r => Nat.beq (R.zlen 9 r.1) r.2.1) = true
  fs : (R.all fun r => fieldsB R r.2.2) = true
  plain : (R.all fun r => !aggB r.2.2 || (!P.eqGuardType P.depth r.1 && !P.stoodInHeld r.1)) = true

theorem fsEq_eq : ∀ {l k : List (TypeId × Nat)}, fsEq l k = true → l = k
  | [], [], _ => rfl
  | a :: l, b :: k, h => by
    simp only [fsEq, Bool.and_eq_true] at h
    have h1 := Nat.eq_of_beq_eq_true h.1.1
    have h2 := Nat.eq_of_beq_eq_true h.1.2
    rw [fsEq_eq h.2, show a = b from Prod.ext h1 h2]
  | [], _ :: _, h => by cases h
  | _ :: _, [], h => by cases h

theorem find_mem : ∀ {R : Rows} {t s : Nat} {d : TyD}, R.find t = some (s, d) → (t, s, d) ∈ R
  | (u, s', d') :: r, t, s, d, h => by
    simp only [Rows.find] at h
    by_cases e : t = u
    · subst e
      rw [Nat.beq_refl] at h
      simp only [cond_true, Option.some.injEq, Prod.mk.injEq] at h
      obtain ⟨rfl, rfl⟩ := h
      simp
    · rw [beq_ne e] at h
      exact List.mem_cons_of_mem _ (find_mem h)

theorem tab_of {P : Program} {R : Rows} (h : TabChk P R) : TabOk P R := by
  have row : ∀ t, (R.und t = .oth ∧ R.siz t = 0) ∨ ∃ s d, R.und t = d ∧ R.siz t = s ∧ (t, s, d) ∈ R := by
    intro t
    unfold Rows.und Rows.siz
    cases hf : R.find t with
    | none => exact .inl ⟨rfl, rfl⟩
    | some p => exact .inr ⟨p.1, p.2, rfl, rfl, find_mem hf⟩
  refine ⟨fun t => ?_, fun t hs => ?_, fun t hu => ?_, fun t fs hu p hp => ?_, fun t hag => ?_⟩
  · rcases row t with ⟨e, _⟩ | ⟨s, d, e, _, hm⟩
    · rw [e]; trivial
    · rw [e]
      have := List.all_eq_true.1 h.und _ hm
      simp only at this
      cases d <;> simp only [undB] at this <;> (try cases this) <;> (split at this <;> try cases this)
      · rename_i hq; exact hq
      · rename_i hq; have := of_decide_eq_true this; subst this; exact hq
      · rename_i hq; exact hq
      · rename_i hq; have := Nat.eq_of_beq_eq_true this; subst this; exact hq
      · rename_i hq; have := Nat.eq_of_beq_eq_true this; subst this; exact hq
      · rename_i hq
        simp only [Bool.and_eq_true] at this
        have h1 := Nat.eq_of_beq_eq_true this.1
        have h2 := Nat.eq_of_beq_eq_true this.2
        subst h1; subst h2; exact hq
      · rename_i fields hq
        simp only [Bool.and_eq_true] at this
        exact ⟨fields, hq, fsEq_eq this.1, fun f hf => of_decide_eq_true (List.all_eq_true.1 this.2 f hf)⟩
      · rename_i hq; exact ⟨_, _, _, hq⟩
      · rename_i hq; exact ⟨_, hq⟩
  · rcases row t with ⟨_, e⟩ | ⟨s, d, e, es, hm⟩
    · exact absurd e hs
    · have := List.map_inj_left.1 h.info _ hm
      simp only [infoOf] at this
      split at this
      · rename_i i hi
        split at this
        · rename_i z hz
          simp only [Option.some.injEq, Prod.mk.injEq] at this
          exact ⟨i, z, hi, by rw [es]; exact this.1, hz, fun _ => this.2⟩
        · cases this
      · cases this
  · rcases row t with ⟨e, _⟩ | ⟨s, d, e, es, hm⟩
    · exact absurd e hu
    · rw [es]; exact Nat.eq_of_beq_eq_true (List.all_eq_true.1 h.len _ hm)
  · rcases row t with ⟨e, _⟩ | ⟨s, d, e, es, hm⟩
    · rw [e] at hu; cases hu
    · have := List.all_eq_true.1 h.fs _ hm
      rw [← e, hu] at this
      have := List.all_eq_true.1 this p hp
      intro h0
      rw [h0] at this
      cases this
  · rcases row t with ⟨e, _⟩ | ⟨s, d, e, es, hm⟩
    · rcases hag with ⟨fs, hu⟩ | ⟨n, e', hu⟩ <;> (rw [e] at hu; cases hu)
    · have := List.all_eq_true.1 h.plain _ hm
      have hd : aggB d = true := by rcases hag with ⟨fs, hu⟩ | ⟨n, e', hu⟩ <;> (rw [e] at hu; subst hu; rfl)
      simp only [hd, Bool.not_true, Bool.false_or, Bool.and_eq_true, Bool.not_eq_true'] at this
      exact this

end Go.Mir

namespace Go.Mir

def lkS {α : Type 1} : List (Nat × α) → FuncId → Option α
  | [], _ => none
  | (j, s) :: r, g => bif Nat.beq g j then some s else lkS r g

def mkCtx (R : Rows) (ps : List (Nat × PSpec)) (ss : List (Nat × Spec)) (fuel : Nat) : Ctx :=
  { R := R, Ψ := fun g => lkP ps g, Φ := fun g => lkS ss g, B := fun _ => none, gl := fun _ => .unk, fuel := fuel }
where
  lkP : List (Nat × PSpec) → FuncId → Option PSpec
    | [], _ => none
    | (j, s) :: r, g => bif Nat.beq g j then some s else lkP r g

structure ListsOk (P : Program) (R : Rows) (ps : List (Nat × PSpec)) (ss : List (Nat × Spec)) : Prop where
  tab : TabOk P R
  p : ∀ q ∈ ps, PSound P R q.1 q.2
  s : ∀ q ∈ ss, SSound P R q.1 q.2

theorem lkP_mem : ∀ {ps : List (Nat × PSpec)} {g : FuncId} {S : PSpec}, mkCtx.lkP ps g = some S → (g, S) ∈ ps
  | (j, s) :: r, g, S, h => by
    simp only [mkCtx.lkP] at h
    by_cases e : g = j
    · subst e
      rw [Nat.beq_refl] at h
      simp only [cond_true, Option.some.injEq] at h
      subst h; simp
    · rw [beq_ne e] at h
      exact List.mem_cons_of_mem _ (lkP_mem h)

theorem lkS_mem : ∀ {ss : List (Nat × Spec)} {g : FuncId} {S : Spec}, lkS ss g = some S → (g, S) ∈ ss
  | (j, s) :: r, g, S, h => by
    simp only [lkS] at h
    by_cases e : g = j
    · subst e
      rw [Nat.beq_refl] at h
      simp only [cond_true, Option.some.injEq] at h
      subst h; simp
    · rw [beq_ne e] at h
      exact List.mem_cons_of_mem _ (lkS_mem h)

theorem ListsOk.ctx {P : Program} {R : Rows} {ps : List (Nat × PSpec)} {ss : List (Nat × Spec)} (h : ListsOk P R ps ss) (fuel : Nat) : CtxOk P (mkCtx R ps ss fuel) :=
  ⟨h.tab, fun _ _ hg => h.p _ (lkP_mem hg), fun _ _ hg => h.s _ (lkS_mem hg), fun _ => rfl⟩

theorem ListsOk.nil {P : Program} {R : Rows} (h : TabOk P R) : ListsOk P R [] [] := ⟨h, fun _ h => (by cases h), fun _ h => (by cases h)⟩
theorem ListsOk.consP {P : Program} {R : Rows} {ps : List (Nat × PSpec)} {ss : List (Nat × Spec)} (h : ListsOk P R ps ss) {g : Nat} {S : PSpec} (hs : PSound P R g S) : ListsOk P R ((g, S) :: ps) ss :=
  ⟨h.tab, fun q hq => (List.mem_cons.1 hq).elim (fun e => e ▸ hs) (h.p q), h.s⟩
theorem ListsOk.consS {P : Program} {R : Rows} {ps : List (Nat × PSpec)} {ss : List (Nat × Spec)} (h : ListsOk P R ps ss) {g : Nat} {S : Spec} (hs : SSound P R g S) : ListsOk P R ps ((g, S) :: ss) :=
  ⟨h.tab, h.p, fun q hq => (List.mem_cons.1 hq).elim (fun e => e ▸ hs) (h.s q)⟩

/-- A function's small facts. -/
def fnB (fn : Func) (n : Nat) : Bool :=
  !(fn.name == "runtime.NumGoroutine") && Nat.ble n fn.ntmps && match fn.body with | some c => codeOk fn.ntmps c | none => false

theorem callFunc_enters {P : Program} {g : FuncId} {fn : Func} {c : Code} (hf : P.funcs[g]? = some fn) (hn : (fn.name == "runtime.NumGoroutine") = false) (hb : fn.body = some c) (args : Array Value) (w : World) :
    (callFunc g args).run P w = .ok (.enter g args) w := by
  simp only [callFunc, Sem.run_bind, run_program, Result.andThen_ok, hf, hn, hb, Option.isNone_some, Bool.false_eq_true, if_false, Sem.run_pure]

theorem fn_is {P : Program} {R : Rows} {ps : List (Nat × PSpec)} {ss : List (Nat × Spec)} {fuel : Nat} {g : FuncId} {fn : Func} {n : Nat} (hf : P.funcs[g]? = some fn) (h : fnB fn n = true) : FnIs P (mkCtx R ps ss fuel) g fn n := by
  simp only [fnB, Bool.and_eq_true, Bool.not_eq_true'] at h
  obtain ⟨⟨h1, h2⟩, h3⟩ := h
  cases hb : fn.body with
  | none => rw [hb] at h3; cases h3
  | some c =>
    rw [hb] at h3
    exact ⟨hf, callFunc_enters hf h1 hb, ⟨c, hb, h3, Blks.all (fun _ _ _ hS => (by cases hS)) c⟩, ble_le h2⟩

/-- Has a tree no end but returns, and nothing that it needs? -/
def T.clean {α : Type} : T α → Bool
  | .ret _ => true
  | .br _ t e => t.clean && e.clean
  | .need _ _ => false
  | .fail _ => false

/-- What a tree comes to. -/
def T.val {α : Type} [Inhabited α] : T α → α
  | .ret a => a
  | .br b t e => bif b then t.val else e.val
  | .need _ t => t.val
  | .fail _ => default

theorem T.holds_clean {α : Type} [Inhabited α] : ∀ {t : T α}, t.clean = true → t.holds fun r => r = t.val
  | .ret _, _ => rfl
  | .br b t e, h => by
    simp only [T.clean, Bool.and_eq_true] at h
    refine ⟨fun hb => ?_, fun hb => ?_⟩
    · have := T.holds_clean h.1; simp only [T.val, hb, cond_true]; exact this
    · have := T.holds_clean h.2; simp only [T.val, hb, cond_false]; exact this
  | .need .., h => by cases h
  | .fail _, h => by cases h

theorem T.holds_mono {α : Type} {Q Q' : α → Prop} (hq : ∀ a, Q a → Q' a) : ∀ {t : T α}, t.holds Q → t.holds Q'
  | .ret a, h => hq a h
  | .br _ _ _, h => ⟨fun hb => T.holds_mono hq (h.1 hb), fun hb => T.holds_mono hq (h.2 hb)⟩
  | .need _ _, h => ⟨h.1, T.holds_mono hq h.2⟩
  | .fail _, h => h.elim

end Go.Mir
