/-
A part of the proof: The mirror, part 4: how an abstract memory lies in a world; what a load, a store, a new block do to it.
-/
import Derived.Laws.IdiomCopy
import Derived.Test.YtfdnbpndnmlmpaaCsrKnownP1

set_option linter.unusedVariables false
set_option linter.unusedSimpArgs false

namespace Go.Mir

/-! ### The table of types is the program's -/
def TyOk (P : Program) (t : TypeId) : TyD → Prop
  | .bool => P.underlying t = some .bool
  | .int k => P.underlying t = some (.int k)
  | .str => P.underlying t = some .string
  | .ptr e => P.underlying t = some (.pointer e)
  | .slc e => P.underlying t = some (.slice e)
  | .arr n e => P.underlying t = some (.array n e)
  | .st fs => ∃ fields, P.underlying t = some (.struct fields) ∧ fields.toList.map (fun f => (f.type, f.offset)) = fs ∧ ∀ f ∈ fields.toList, f.name ≠ "_"
  | .fnc => ∃ a b c, P.underlying t = some (.func a b c)
  | .ifc => ∃ m, P.underlying t = some (.interface m)
  | .oth => True

structure TabOk (P : Program) (R : Rows) : Prop where
  und : ∀ t, TyOk P t (R.und t)
  info : ∀ t, R.siz t ≠ 0 → ∃ i z, P.info? t = some i ∧ i.size = R.siz t ∧ i.zero = some z ∧ (R.und t ≠ .oth → z.cells.toList = R.zc 9 t)
  len : ∀ t, R.und t ≠ .oth → R.zlen 9 t = R.siz t
  fsOk : ∀ t fs, R.und t = .st fs → ∀ p ∈ fs, R.siz p.1 ≠ 0
  plain : ∀ t, (∃ fs, R.und t = .st fs) ∨ (∃ n e, R.und t = .arr n e) → P.eqGuardType P.depth t = false ∧ P.stoodInHeld t = false

/-! ### An object in a world -/
structure Own (w : World) (r : Reg) (cs : List Value) : Prop where
  fits : cs.length ≤ r.size
  there : ∀ j, j < r.size → (w.cell? (addrOf r j)).isSome = true
  free : ∀ j, j < r.size → w.frozen? (addrOf r j) = false
  cells : ∀ j v, cs[j]? = some v → w.cell? (addrOf r j) = some v
  blk : r.block < w.heap.size

def Reg.apart (r s : Reg) : Prop := r.block ≠ s.block ∨ r.off + r.size ≤ s.off ∨ s.off + s.size ≤ r.off

def Reg.has (r : Reg) (b j : Nat) : Prop := b = r.block ∧ r.off ≤ j ∧ j < r.off + r.size

/-- An appendable row has room for its capacity. -/
def roomy : AV → Reg → Prop
  | .row n s _, r => r.size = r.cap * s ∧ n.v ≤ r.cap
  | _, _ => True

structure Rel (R : Rows) (β : Bt) (m : Mem) (nx : Nat → Prop) (w : World) : Prop where
  own : ∀ i, nx i → isUnk (lk m i) = false → Own w (β.reg i) (flat R β (lk m i)) ∧ wf R nx (lk m i) ∧ roomy (lk m i) (β.reg i)
  out : ∀ i, ¬ nx i → isUnk (lk m i) = true
  apart : ∀ i j, nx i → nx j → i ≠ j → isUnk (lk m i) = false → isUnk (lk m j) = false → (β.reg i).apart (β.reg j)

/-- The cells that an abstract memory speaks of. -/
def FP (R : Rows) (β : Bt) (m : Mem) (nx : Nat → Prop) (b j : Nat) : Prop := ∃ i, nx i ∧ isUnk (lk m i) = false ∧ b = (β.reg i).block ∧ (β.reg i).off ≤ j ∧ j < (β.reg i).off + sz R (lk m i)

/-- But for some cells all that was there is as it was. -/
structure Same (fp : Nat → Nat → Prop) (w w' : World) : Prop where
  grow : w.heap.size ≤ w'.heap.size
  io : w'.os = w.os ∧ w'.output = w.output
  obj : ∀ (b : Nat) (o : Obj), w.heap[b]? = some o → (∀ c e fr, o ≠ Obj.cells c e fr) → w'.heap[b]? = some o
  cells : ∀ (b : Nat) (c : Array Value) (e : TypeId) (fr : Nat × Nat), w.heap[b]? = some (.cells c e fr) → ∃ c', w'.heap[b]? = some (.cells c' e fr) ∧ c'.size = c.size ∧ ∀ j, ¬ fp b j → c'[j]? = c[j]?

theorem Same.refl (fp : Nat → Nat → Prop) (w : World) : Same fp w w := ⟨Nat.le_refl _, ⟨rfl, rfl⟩, fun _ _ h _ => h, fun _ c _ _ h => ⟨c, h, rfl, fun _ _ => rfl⟩⟩

theorem Same.trans {fp fp' : Nat → Nat → Prop} {w w' w'' : World} (h : Same fp w w') (h' : Same fp' w' w'') (hf : ∀ b j, b < w.heap.size → fp' b j → fp b j) : Same fp w w'' := by
  refine ⟨Nat.le_trans h.grow h'.grow, ⟨h'.io.1.trans h.io.1, h'.io.2.trans h.io.2⟩, fun b o hb ho => h'.obj b o (h.obj b o hb ho) ho, fun b c e fr hb => ?_⟩
  obtain ⟨c', hc', hs, hk⟩ := h.cells b c e fr hb
  obtain ⟨c'', hc'', hs', hk'⟩ := h'.cells b c' e fr hc'
  have hlt : b < w.heap.size := (Array.getElem?_eq_some_iff.1 hb).1
  exact ⟨c'', hc'', hs'.trans hs, fun j hj => (hk' j fun hx => hj (hf b j hlt hx)).trans (hk j hj)⟩

theorem Same.mono {fp fp' : Nat → Nat → Prop} {w w' : World} (h : Same fp w w') (hf : ∀ b j, b < w.heap.size → fp b j → fp' b j) : Same fp' w w' := by
  refine ⟨h.grow, h.io, h.obj, fun b c e fr hb => ?_⟩
  obtain ⟨c', hc', hs, hk⟩ := h.cells b c e fr hb
  exact ⟨c', hc', hs, fun j hj => hk j fun hx => hj (hf b j (Array.getElem?_eq_some_iff.1 hb).1 hx)⟩

theorem Same.drew (fp : Nat → Nat → Prop) (w : World) : Same fp w { w with drawn := w.drawn + 1 } := ⟨Nat.le_refl _, ⟨rfl, rfl⟩, fun _ _ h _ => h, fun _ c _ _ h => ⟨c, h, rfl, fun _ _ => rfl⟩⟩

section
variable {fp : Nat → Nat → Prop} {w w' : World}

theorem cell?_none (w : World) (b j : Nat) : w.cell? ⟨b, j, none⟩ = match w.heap[b]? with | some (.cells c _ _) => c[j]? | _ => none := by
  unfold World.cell?
  cases h : w.heap[b]? with
  | none => simp
  | some o => cases o <;> simp

theorem Same.cell (h : Same fp w w') (b j : Nat) (hb : b < w.heap.size) (hj : ¬ fp b j) : w'.cell? ⟨b, j, none⟩ = w.cell? ⟨b, j, none⟩ := by
  rw [cell?_none, cell?_none]
  obtain ⟨o, ho⟩ : ∃ o, w.heap[b]? = some o := ⟨w.heap[b], Array.getElem?_eq_getElem hb⟩
  cases o with
  | cells c e fr =>
    obtain ⟨c', hc', _, hk⟩ := h.cells b c e fr ho
    rw [ho, hc']
    exact hk j hj
  | _ => rw [h.obj b _ ho (fun _ _ _ => by simp), ho]

theorem Same.there (h : Same fp w w') (b j : Nat) (hb : b < w.heap.size) : (w'.cell? ⟨b, j, none⟩).isSome = (w.cell? ⟨b, j, none⟩).isSome := by
  rw [cell?_none, cell?_none]
  obtain ⟨o, ho⟩ : ∃ o, w.heap[b]? = some o := ⟨w.heap[b], Array.getElem?_eq_getElem hb⟩
  cases o with
  | cells c e fr =>
    obtain ⟨c', hc', hs, _⟩ := h.cells b c e fr ho
    rw [ho, hc']
    simp only []
    by_cases hj : j < c.size
    · rw [Array.getElem?_eq_getElem hj, Array.getElem?_eq_getElem (by omega)]; rfl
    · rw [Array.getElem?_eq_none (by omega), Array.getElem?_eq_none (by omega)]
  | _ => rw [h.obj b _ ho (fun _ _ _ => by simp), ho]

theorem Same.frozen (h : Same fp w w') (b j : Nat) (hb : b < w.heap.size) : w'.frozen? ⟨b, j, none⟩ = w.frozen? ⟨b, j, none⟩ := by
  unfold World.frozen?
  obtain ⟨o, ho⟩ : ∃ o, w.heap[b]? = some o := ⟨w.heap[b], Array.getElem?_eq_getElem hb⟩
  cases o with
  | cells c e fr =>
    obtain ⟨c', hc', _, _⟩ := h.cells b c e fr ho
    simp only [ho, hc']
  | _ => rw [h.obj b _ ho (fun _ _ _ => by simp), ho]

theorem Own.same {r : Reg} {cs : List Value} (g : Own w r cs) (h : Same fp w w') (hf : ∀ j, r.has r.block j → ¬ fp r.block j) : Own w' r cs := by
  have hb := g.blk
  refine ⟨g.fits, fun j hj => ?_, fun j hj => ?_, fun j v hv => ?_, Nat.lt_of_lt_of_le hb h.grow⟩
  · have := g.there j hj
    unfold addrOf at this ⊢
    rw [h.there _ _ hb, this]
  · have := g.free j hj
    unfold addrOf at this ⊢
    rw [h.frozen _ _ hb, this]
  · have := g.cells j v hv
    unfold addrOf at this ⊢
    have hj : j < cs.length := (List.getElem?_eq_some_iff.1 hv).1
    rw [h.cell _ _ hb (hf _ ⟨rfl, by omega, by have := g.fits; omega⟩), this]

end

/-! ### What comes behind: some more objects, and cells of the old ones -/
structure Ext (R : Rows) (β : Bt) (m : Mem) (nx : Nat → Prop) (w : World) (β' : Bt) (m' : Mem) (nx' : Nat → Prop) (w' : World) : Prop where
  le : ∀ i, nx i → nx' i
  alike : Alike nx β β'
  same : Same (FP R β m nx) w w'
  fp : ∀ b j, b < w.heap.size → FP R β' m' nx' b j → FP R β m nx b j

theorem Ext.refl (R : Rows) (β : Bt) (m : Mem) (nx : Nat → Prop) (w : World) : Ext R β m nx w β m nx w := ⟨fun _ h => h, Alike.refl, Same.refl _ _, fun _ _ _ h => h⟩

theorem Ext.trans {R : Rows} {β β' β'' : Bt} {m m' m'' : Mem} {nx nx' nx'' : Nat → Prop} {w w' w'' : World} (h : Ext R β m nx w β' m' nx' w') (h' : Ext R β' m' nx' w' β'' m'' nx'' w'') :
    Ext R β m nx w β'' m'' nx'' w'' :=
  ⟨fun i hi => h'.le i (h.le i hi), h.alike.trans h.le h'.alike, h.same.trans h'.same h.fp, fun b j hb hx => h.fp b j hb (h'.fp b j (Nat.lt_of_lt_of_le hb h.same.grow) hx)⟩

section
variable {R : Rows} {β : Bt} {m : Mem} {nx : Nat → Prop} {w : World}

theorem lk_cons_same (i : Nat) (v : AV) : lk ((i, v) :: m) i = v := by simp [lk, Nat.beq_refl]
theorem lk_cons_ne {i j : Nat} (v : AV) (h : i ≠ j) : lk ((j, v) :: m) i = lk m i := by simp [lk, beq_ne h]

/-- A world in which nothing that was there is another. -/
theorem Rel.quiet {w' : World} (h : Rel R β m nx w) (hs : Same (fun _ _ => False) w w') : Rel R β m nx w' :=
  ⟨fun i hi hu => ⟨(h.own i hi hu).1.same hs fun _ _ hx => hx, (h.own i hi hu).2⟩, h.out, h.apart⟩

theorem Ext.quiet {w' : World} (hs : Same (fun _ _ => False) w w') : Ext R β m nx w β m nx w' :=
  ⟨fun _ h => h, Alike.refl, hs.mono fun _ _ _ hx => hx.elim, fun _ _ _ h => h⟩

/-! ### A load -/
theorem addr_add (r : Reg) (o j : Nat) : (addrOf r o).add j = addrOf r (o + j) := by
  unfold Addr.add addrOf
  split
  · subst_vars; rfl
  · simp [Nat.add_assoc]

theorem list_mid {α : Type} {pre l post : List α} {j : Nat} {v : α} (h : l[j]? = some v) : (pre ++ (l ++ post))[pre.length + j]? = some v := by
  have hj : j < l.length := (List.getElem?_eq_some_iff.1 h).1
  rw [List.getElem?_append_right (by omega)]
  simp [List.getElem?_append_left hj, h]

theorem Rel.part (h : Rel R β m nx w) {i : Nat} (hi : nx i) {p : List Stp} {u : AV} {ps : List Prop} (hn : nav R (lk m i) p = some (ps, u)) (hp : ∀ q ∈ ps, q) (hu : isUnk (lk m i) = false) :
    wf R nx u ∧ ∀ j v, (flat R β u)[j]? = some v → w.cell? ((addrOf (β.reg i) (poff p)).add j) = some v := by
  obtain ⟨ho, hw, _⟩ := h.own i hi hu
  obtain ⟨gu, pre, post, hl, hf⟩ := nav_spec (β := β) p (lk m i) u ps hn hp hw
  refine ⟨gu, fun j v hv => ?_⟩
  rw [addr_add, ← hl]
  exact ho.cells _ v (by rw [hf]; exact list_mid hv)

theorem nav_unk {p : List Stp} {u : AV} {ps : List Prop} (hn : nav R .unk p = some (ps, u)) : u = .unk := by
  cases p with
  | nil => simp [nav] at hn; exact hn.2.symm
  | cons s p => cases s <;> simp [nav, xp] at hn

theorem wf_notUnk {v : AV} (h : wf R nx v) : isUnk v = false := by cases v <;> first | rfl | exact h.elim

theorem wf_wfe {v : AV} (h : wf R nx v) : wfe R nx v := by cases v <;> first | exact h | exact h.elim | trivial

theorem wfe_wf {v : AV} (h : wfe R nx v) (ho : okv v = true) : wf R nx v := by cases v <;> simp [okv] at ho <;> exact h

theorem flat_one {v : AV} (h : wf R nx v) (ha : isAgg R v = false) (hs : sz R v = 1) : flat R β v = [toV R β v] := by
  have hl := flat_len (β := β) v h
  rw [hs] at hl
  obtain ⟨x, hx⟩ := List.length_eq_one_iff.1 hl
  unfold toV tov
  rw [ha, hx]; rfl

theorem toV_agg {v : AV} (ha : isAgg R v = true) : toV R β v = .agg (flat R β v).toArray := by unfold toV tov; rw [ha]; rfl

/-! ### The cells of a value are single ones -/
theorem zc_one (R : Rows) : ∀ d t, ∀ x ∈ R.zc d t, x.oneCell' = true := by
  intro d
  induction d with
  | zero => intro t x hx; simp [Rows.zc] at hx
  | succ d ih =>
    intro t x hx
    unfold Rows.zc at hx
    cases h : R.und t with
    | arr n e => rw [h] at hx; simp at hx; exact ih e x hx.2
    | st fs => rw [h] at hx; obtain ⟨f, _, hx⟩ := List.mem_flatMap.1 hx; exact ih f.1 x hx
    | oth => rw [h] at hx; simp at hx
    | _ => rw [h] at hx; simp at hx; subst hx; rfl

theorem cap_one (c : Cap) : ∀ x ∈ capCells c, x.oneCell' = true := by
  intro x hx; simp [capCells] at hx
  rcases hx with h | h | h | h | h | h | h | h | h <;> subst h <;> rfl

theorem hart_one (h : Hart) : ∀ x ∈ hartCells h, x.oneCell' = true := by
  intro x hx
  unfold hartCells at hx
  simp only [List.mem_append] at hx
  rcases hx with hx | hx | hx | hx | hx | hx | hx | hx | hx | hx | hx | hx
  · simp at hx; obtain ⟨i, _, hx⟩ := hx; exact cap_one _ x hx
  all_goals first
    | exact cap_one _ x hx
    | (simp at hx; rcases hx with h | h | h | h | h | h | h | h | h | h | h | h | h | h | h | h | h | h <;> subst h <;> rfl)

theorem flat_oneCell : ∀ v, wf R nx v → ∀ x ∈ flat R β v, x.oneCell' = true := by
  intro v
  induction v with
  | cons a b iha ihb => intro g x hx; rw [flat_cons] at hx; exact (List.mem_append.1 hx).elim (iha g.1 x) (ihb g.2 x)
  | rcd f ih => exact fun g => ih g
  | vec n s f ih => intro g x hx; rw [flat_vec] at hx; obtain ⟨i, hi, hx⟩ := List.mem_flatMap.1 hx; exact ih i (g i (List.mem_range.1 hi)).1 x hx
  | row n s f ih => intro g x hx; rw [flat_row] at hx; obtain ⟨i, hi, hx⟩ := List.mem_flatMap.1 hx; exact ih i (g i (List.mem_range.1 hi)).1 x hx
  | zro d t => exact fun _ => zc_one R d t
  | cap c => exact fun _ => cap_one c
  | hart h => exact fun _ => hart_one h
  | trap t => intro _ x hx; simp [flat, fv, trapCells] at hx; rcases hx with h | h | h <;> subst h <;> rfl
  | rng t => intro _ x hx; simp [flat, fv, rngCells] at hx; rcases hx with h | h | h <;> subst h <;> rfl
  | nil => intro _ x hx; simp [flat, fv] at hx
  | tup v ih => exact fun g => g.elim
  | undef => exact fun g => g.elim
  | unk => exact fun g => g.elim
  | opq g => exact fun g => g.elim
  | _ => intro _ x hx; simp [flat, fv] at hx; subst hx; rfl

/-! ### A store -/
theorem Same.setCells (b : Nat) : ∀ (vs : List Value) (o : Nat) (w : World), Same (fun x j => x = b ∧ o ≤ j ∧ j < o + vs.length) w (w.setCells b o vs)
  | [], o, w => Same.refl _ w
  | v :: r, o, w => by
    have h1 : Same (fun x j => x = b ∧ o ≤ j ∧ j < o + (v :: r).length) w (w.setCell ⟨b, o, none⟩ v) := by
      refine ⟨by simp, ⟨rfl, rfl⟩, fun x ob hx ho => ?_, fun x c e fr hx => ?_⟩
      · simp only [World.setCell]
        rw [Array.getElem?_modify]
        split
        · subst_vars; rw [hx]; cases ob <;> first | rfl | exact absurd rfl (ho _ _ _)
        · exact hx
      · simp only [World.setCell]
        rw [Array.getElem?_modify]
        split
        · subst_vars
          rw [hx]
          refine ⟨_, rfl, by simp, fun j hj => ?_⟩
          have hne : o ≠ j := fun e => hj ⟨rfl, by omega, by simp; omega⟩
          simp [Array.getElem?_setIfInBounds_ne hne]
        · exact ⟨c, hx, rfl, fun _ _ => rfl⟩
    refine h1.trans (Same.setCells b r (o + 1) _) fun x j _ hx => ⟨hx.1, by omega, by have := hx.2.2; simp; omega⟩

theorem okv_roomy {u : AV} (h : okv u = true) (r : Reg) : roomy u r := by cases u <;> first | trivial | cases h

theorem setp_roomy {v u v' : AV} {p : List Stp} {ps : List Prop} {r : Reg} (h : setp R v p u = some (ps, v')) (ho : ∀ r, roomy u r) (hr : roomy v r) : roomy v' r := by
  unfold setp at h
  split at h
  · split at h
    · simp only [Option.some.injEq, Prod.mk.injEq] at h
      obtain ⟨_, rfl⟩ := h
      exact ho r
    · cases h
  · split at h
    · split at h
      · simp only [Option.some.injEq, Prod.mk.injEq] at h
        obtain ⟨_, rfl⟩ := h
        trivial
      · cases h
    · cases h
  · split at h
    · split at h
      · split at h
        · split at h
          · split at h
            · simp only [Option.some.injEq, Prod.mk.injEq] at h
              obtain ⟨_, rfl⟩ := h
              trivial
            · cases h
          · split at h
            · simp only [Option.some.injEq, Prod.mk.injEq] at h
              obtain ⟨_, rfl⟩ := h
              trivial
            · cases h
          · simp only [Option.some.injEq, Prod.mk.injEq] at h
            obtain ⟨_, rfl⟩ := h
            trivial
        · cases h
      · cases h
    · cases h
  · split at h
    · split at h
      · simp only [Option.some.injEq, Prod.mk.injEq] at h
        obtain ⟨_, rfl⟩ := h
        trivial
      · cases h
    · rename_i hx
      split at h
      · simp only [Option.some.injEq, Prod.mk.injEq] at h
        obtain ⟨_, rfl⟩ := h
        cases v <;> simp [xp] at hx
        · obtain ⟨rfl, rfl, rfl⟩ := hx; exact hr
        · rename_i d t
          cases d with
          | zero => simp at hx
          | succ d => cases hq : R.und t <;> simp [hq, xpZ] at hx
        all_goals simp [xpCap, xpHart, xpTrap, xpRng] at hx
      · cases h
    · cases h

theorem Rel.store (h : Rel R β m nx w) {i : Nat} (hi : nx i) (hu : isUnk (lk m i) = false) {p : List Stp} {u v' : AV} {ps : List Prop} (hn : setp R (lk m i) p u = some (ps, v')) (hp : ∀ q ∈ ps, q)
    (gu : wf R nx u) (hok : okv u = true) :
    (∀ j, j < (flat R β u).length → (w.cell? ((addrOf (β.reg i) (poff p + j)))).isSome = true) ∧ (∀ j, j < (flat R β u).length → w.frozen? (addrOf (β.reg i) (poff p + j)) = false) ∧
    Rel R β ((i, v') :: m) nx (w.setCells (β.reg i).block ((β.reg i).off + poff p) (flat R β u)) ∧
    Ext R β m nx w β ((i, v') :: m) nx (w.setCells (β.reg i).block ((β.reg i).off + poff p) (flat R β u)) := by
  obtain ⟨ho, hw, hroom⟩ := h.own i hi hu
  obtain ⟨gv, hsz, pre, old, post, hl1, hl2, hf1, hf2⟩ := setp_spec (β := β) p.length p (Nat.le_refl _) (lk m i) u v' ps hn hp hw gu
  have hlen : (flat R β u).length = old.length := by rw [hl2, flat_len _ gu]
  have hfit := ho.fits
  rw [hf1] at hfit
  simp at hfit
  have hin : ∀ j, j < (flat R β u).length → poff p + j < (β.reg i).size := fun j hj => by omega
  have hsame := Same.setCells (β.reg i).block (flat R β u) ((β.reg i).off + poff p) w
  have hthere : ∀ j, j < (flat R β u).length → (w.cell? ⟨(β.reg i).block, (β.reg i).off + poff p + j, none⟩).isSome = true := fun j hj => by
    have := ho.there _ (hin j hj)
    unfold addrOf at this
    rwa [← Nat.add_assoc] at this
  have hunk : isUnk v' = false := wf_notUnk gv
  have live : ∀ k, isUnk (lk ((i, v') :: m) k) = isUnk (lk m k) := fun k => by
    by_cases e : k = i
    · subst e; rw [lk_cons_same, hunk, hu]
    · rw [lk_cons_ne _ e]
  refine ⟨fun j hj => ho.there _ (hin j hj), fun j hj => ho.free _ (hin j hj), ⟨fun k hk hku => ?_, fun k hk => (live k).trans (h.out k hk), fun a b ha hb hab hau hbu => ?_⟩, ⟨fun _ h => h, Alike.refl, hsame.mono fun b j _ hx => ?_, fun b j _ hx => ?_⟩⟩
  · by_cases e : k = i
    · subst e
      rw [lk_cons_same]
      refine ⟨⟨?_, fun j hj => ?_, fun j hj => ?_, fun j v hv => ?_, Nat.lt_of_lt_of_le ho.blk hsame.grow⟩, gv, setp_roomy hn (okv_roomy hok) hroom⟩
      · rw [hf2]; simp; omega
      · have := ho.there j hj
        unfold addrOf at this ⊢
        rw [hsame.there _ _ ho.blk, this]
      · have := ho.free j hj
        unfold addrOf at this ⊢
        rw [hsame.frozen _ _ ho.blk, this]
      · unfold addrOf
        rw [hf2] at hv
        by_cases h1 : j < pre.length
        · rw [List.getElem?_append_left h1] at hv
          have : (flat R β (lk m k))[j]? = some v := by rw [hf1, List.getElem?_append_left h1]; exact hv
          have hc := ho.cells j v this
          unfold addrOf at hc
          rw [hsame.cell _ _ ho.blk (fun hx => by omega), hc]
        · rw [List.getElem?_append_right (by omega)] at hv
          by_cases h2 : j - pre.length < (flat R β u).length
          · rw [List.getElem?_append_left h2] at hv
            have := World.cell?_setCells_in (β.reg k).block (flat R β u) ((β.reg k).off + poff p) w hthere (j - pre.length) h2
            rw [show (β.reg k).off + j = (β.reg k).off + poff p + (j - pre.length) by omega, this]
            rw [List.getElem?_eq_getElem h2] at hv
            exact hv
          · rw [List.getElem?_append_right (by omega)] at hv
            have : (flat R β (lk m k))[j]? = some v := by
              rw [hf1, List.getElem?_append_right (by omega), List.getElem?_append_right (by omega), ← hlen]; exact hv
            have hc := ho.cells j v this
            unfold addrOf at hc
            rw [hsame.cell _ _ ho.blk (fun hx => by omega), hc]
    · rw [lk_cons_ne _ e] at hku ⊢
      obtain ⟨ok, wk⟩ := h.own k hk hku
      refine ⟨ok.same hsame fun j hj hx => ?_, wk⟩
      have := h.apart k i hk hi e hku hu
      unfold Reg.apart at this
      unfold Reg.has at hj
      omega
  · rw [live] at hau hbu
    exact h.apart a b ha hb hab hau hbu
  · have hfl := flat_len (β := β) (lk m i) hw
    rw [hf1] at hfl
    simp only [List.length_append] at hfl
    exact ⟨i, hi, hu, hx.1, by omega, by omega⟩
  · obtain ⟨k, hk, hku, hx⟩ := hx
    rw [live] at hku
    refine ⟨k, hk, hku, ?_⟩
    by_cases e : k = i
    · subst e; rw [lk_cons_same, hsz] at hx; exact hx
    · rw [lk_cons_ne _ e] at hx; exact hx

/-! ### A new object -/
def Bt.put (β : Bt) (i : Nat) (r : Reg) : Bt := { β with reg := fun j => if j = i then r else β.reg j }

theorem Bt.put_same (β : Bt) (i : Nat) (r : Reg) : (β.put i r).reg i = r := by simp [Bt.put]
theorem Bt.put_ne (β : Bt) {i j : Nat} (r : Reg) (h : j ≠ i) : (β.put i r).reg j = β.reg j := by simp [Bt.put, h]

theorem Same.alloc (fp : Nat → Nat → Prop) (w : World) (o : Obj) : Same fp w (w.alloc o) := by
  refine ⟨by simp, ⟨rfl, rfl⟩, fun b ob hb _ => ?_, fun b c e fr hb => ⟨c, ?_, rfl, fun _ _ => rfl⟩⟩
  all_goals
    have hlt : b < w.heap.size := (Array.getElem?_eq_some_iff.1 hb).1
    simp only [World.alloc]
    rw [Array.getElem?_push_lt hlt, ← Array.getElem?_eq_getElem hlt]
    exact hb

/-- One number more. -/
def orr (nx : Nat → Prop) (k : Nat) : Nat → Prop := fun i => nx i ∨ i = k

theorem Rel.new (h : Rel R β m nx w) (k : Nat) (hk : ¬ nx k) (v : AV) (cs : List Value) (e : TypeId) (cap : Nat) (hcs : flat R β v = cs) (gv : wf R nx v) (hro : roomy v ⟨w.heap.size, 0, cs.length, cap⟩) :
    Rel R (β.put k ⟨w.heap.size, 0, cs.length, cap⟩) ((k, v) :: m) (orr nx k) (w.alloc (.cells cs.toArray e)) ∧
    Ext R β m nx w (β.put k ⟨w.heap.size, 0, cs.length, cap⟩) ((k, v) :: m) (orr nx k) (w.alloc (.cells cs.toArray e)) := by
  have hal : Alike nx β (β.put k ⟨w.heap.size, 0, cs.length, cap⟩) := fun i hi => ⟨Bt.put_ne β _ (fun e => hk (e ▸ hi)), rfl⟩
  have hfl : ∀ u, wf R nx u → flat R (β.put k ⟨w.heap.size, 0, cs.length, cap⟩) u = flat R β u := fun u gu => flat_congr hal gu
  have hsame := Same.alloc (fun _ _ => False) w (.cells cs.toArray e)
  have hle : ∀ i, nx i → orr nx k i := fun _ => .inl
  have old : ∀ i, orr nx k i → i ≠ k → nx i := fun i hi e => hi.resolve_right e
  refine ⟨⟨fun i hi hu => ?_, fun i hi => ?_, fun i j hi hj hij hiu hju => ?_⟩, ⟨hle, hal, hsame.mono fun _ _ _ hx => hx.elim, fun b j hb hx => ?_⟩⟩
  · by_cases ei : i = k
    · subst ei
      rw [lk_cons_same, Bt.put_same, hfl v gv, hcs]
      refine ⟨⟨Nat.le_refl _, fun j hj => ?_, fun j hj => ?_, fun j u hv => ?_, by simp⟩, wf_mono hle v gv, hro⟩
      · unfold addrOf; simp only [Nat.zero_add]
        rw [World.cell?_alloc_new]
        simp only [] at hj
        simp [hj]
      · unfold addrOf; simp only [Nat.zero_add]; rw [World.frozen?_alloc_new]
      · unfold addrOf; simp only [Nat.zero_add]; rw [World.cell?_alloc_new]; simpa using hv
    · rw [lk_cons_ne _ ei] at hu ⊢
      obtain ⟨o, g, hr⟩ := h.own i (old i hi ei) hu
      rw [Bt.put_ne _ _ ei, hfl _ g]
      exact ⟨o.same hsame fun _ _ hx => hx, wf_mono hle _ g, hr⟩
  · rw [lk_cons_ne _ fun e => hi (.inr e)]
    exact h.out i fun g => hi (.inl g)
  · by_cases ei : i = k
    · subst ei
      rw [lk_cons_ne _ (Ne.symm hij)] at hju
      rw [Bt.put_same, Bt.put_ne _ _ (Ne.symm hij)]
      have := (h.own j (old j hj (Ne.symm hij)) hju).1.blk
      exact .inl (by simp only []; omega)
    · rw [lk_cons_ne _ ei] at hiu
      rw [Bt.put_ne _ _ ei]
      have hb := (h.own i (old i hi ei) hiu).1.blk
      by_cases ej : j = k
      · subst ej
        rw [Bt.put_same]
        exact .inl (by simp only []; omega)
      · rw [lk_cons_ne _ ej] at hju
        rw [Bt.put_ne _ _ ej]
        exact h.apart i j (old i hi ei) (old j hj ej) hij hiu hju
  · obtain ⟨i, hi, hu, hx⟩ := hx
    by_cases ei : i = k
    · subst ei
      rw [Bt.put_same] at hx
      have := hx.1
      simp only [] at this
      omega
    · rw [lk_cons_ne _ ei] at hu hx
      rw [Bt.put_ne _ _ ei] at hx
      exact ⟨i, old i hi ei, hu, hx⟩

end
end Go.Mir
