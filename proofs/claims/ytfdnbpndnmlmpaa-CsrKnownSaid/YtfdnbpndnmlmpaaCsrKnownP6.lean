/-
A part of the proof: The mirror, part 36: from a statement's own run to the given rows: arguments without references.
-/
import Derived.OpenShut
import Derived.ProofKit
import Derived.DataShut
import Derived.Test.YtfdnbpndnmlmpaaCsrKnownP5

set_option linter.unusedVariables false
set_option linter.unusedSimpArgs false

namespace Go.Mir

/-! ### Types without references -/
def plainB (P : Program) : Nat → TypeId → Bool
  | 0, _ => false
  | d + 1, t =>
    match P.underlying t with
    | some .bool => true
    | some (.int _) => true
    | some (.struct fs) => fs.toList.all fun f => plainB P d f.type
    | some (.array _ e) => plainB P d e
    | _ => false

section
variable {H : Type} {enc : TypeId × Value → H} {P : Program} {w : World} {base : Nat} {sp : Nat → Bool} {hd : Bool}

theorem trod_plain : ∀ (d : Nat) (t : TypeId) (fuel : Nat) (cs : List Value) (x : DataW H × List MemPlace), plainB P d t = true → DataW.trod enc P w base sp hd fuel t cs = some x →
    (∀ w' base' sp' hd', DataW.trod enc P w' base' sp' hd' fuel t cs = some x) ∧ x.2 = []
  | 0, _, _, _, _, h, _ => by cases h
  | d + 1, t, fuel, cs, x, h, hx => by
    unfold plainB at h
    split at h
    · rename_i hu
      cases fuel with
      | zero => simp [DataW.trod] at hx
      | succ m =>
        have hb : ∃ b, cs = [.bool b] ∧ x = (.lit (.bool b), []) := by
          unfold DataW.trod at hx
          rw [hu] at hx
          split at hx <;> simp_all
        obtain ⟨b, rfl, rfl⟩ := hb
        exact ⟨fun w' base' sp' hd' => by simp [DataW.trod, hu], rfl⟩
    · rename_i k hu
      cases fuel with
      | zero => simp [DataW.trod] at hx
      | succ m =>
        have hb : ∃ b, cs = [.int k b] ∧ x = (.lit (.int k b), []) ∧ (Lit.int k b).wf = true := by
          unfold DataW.trod at hx
          rw [hu] at hx
          split at hx <;> simp_all
        obtain ⟨b, rfl, rfl, hw⟩ := hb
        exact ⟨fun w' base' sp' hd' => by simp [DataW.trod, hu, hw], rfl⟩
    · rename_i fs hu
      obtain ⟨xs, n, rfl, rfl, hl, hlen, hf⟩ := DataW.trod_struct hu hx
      have key : ∀ (i : Nat) (f : Field), fs.toList[i]? = some f → ∃ y, xs[i]? = some y ∧ (∀ w' base' sp' hd', DataW.trod enc P w' base' sp' hd' n f.type ((cs.drop f.offset).take (P.cellsOf f.type)) = some y) ∧ y.2 = [] := by
        intro i f hi
        have hi' : fs[i]? = some f := by simpa using hi
        have e := hf i f hi'
        have hlt : i < xs.length := by rw [hlen]; exact (Array.getElem?_eq_some_iff.1 hi').1
        have hp : plainB P d f.type = true := List.all_eq_true.1 h f (List.mem_of_getElem? hi)
        rw [List.getElem?_eq_getElem hlt] at e
        obtain ⟨a, b⟩ := trod_plain d f.type n _ _ hp e
        exact ⟨xs[i], List.getElem?_eq_getElem hlt, a, b⟩
      refine ⟨fun w' base' sp' hd' => ChangeShapes.trod_struct_mk hu hl (mapM_some_of_get _ _ (by simpa using hlen) fun i f hi => ?_), ?_⟩
      · obtain ⟨y, h1, h2, _⟩ := key i f hi
        rw [h1]; exact h2 _ _ _ _
      · show xs.flatMap (·.2) = []
        rw [List.flatMap_eq_nil_iff]
        intro y hy
        obtain ⟨i, hi⟩ := List.getElem?_of_mem hy
        have hlt : i < fs.size := by rw [← hlen]; exact (List.getElem?_eq_some_iff.1 hi).1
        obtain ⟨y', h1, _, h3⟩ := key i fs[i] (by simp [hlt])
        rw [hi] at h1
        simp only [Option.some.injEq] at h1
        subst h1; exact h3
    · rename_i k e hu
      obtain ⟨xs, n, rfl, rfl, hl, hlen, hf⟩ := DataW.trod_array hu hx
      have key : ∀ (i : Nat), i < k → ∃ y, xs[i]? = some y ∧ (∀ w' base' sp' hd', DataW.trod enc P w' base' sp' hd' n e ((cs.drop (i * P.cellsOf e)).take (P.cellsOf e)) = some y) ∧ y.2 = [] := by
        intro i hi
        have e' := hf i hi
        have hlt : i < xs.length := by omega
        rw [List.getElem?_eq_getElem hlt] at e'
        obtain ⟨a, b⟩ := trod_plain d e n _ _ h e'
        exact ⟨xs[i], List.getElem?_eq_getElem hlt, a, b⟩
      refine ⟨fun w' base' sp' hd' => ?_, ?_⟩
      · have hm : (List.range k).mapM (fun i => DataW.trod enc P w' base' sp' hd' n e ((cs.drop (i * P.cellsOf e)).take (P.cellsOf e))) = some xs :=
          mapM_some_of_get _ _ (by simpa using hlen) fun i f hi => by
            have hik : i < k := by simpa using (List.getElem?_eq_some_iff.1 hi).1
            have : f = i := by
              have := (List.getElem?_eq_some_iff.1 hi).2
              simpa using this.symm
            subst this
            obtain ⟨y, h1, h2, _⟩ := key f hik
            rw [h1]; exact h2 _ _ _ _
        unfold DataW.trod
        rw [hu]
        split <;> simp_all
      · show xs.flatMap (·.2) = []
        rw [List.flatMap_eq_nil_iff]
        intro y hy
        obtain ⟨i, hi⟩ := List.getElem?_of_mem hy
        have hlt : i < k := by rw [← hlen]; exact (List.getElem?_eq_some_iff.1 hi).1
        obtain ⟨y', h1, _, h3⟩ := key i hlt
        rw [hi] at h1
        simp only [Option.some.injEq] at h1
        subst h1; exact h3
    · cases h

theorem trodAll_plain {d : Nat} : ∀ (ts : List TypeId) (vs : List Value) (ds : List (DataW H)) (p : List MemPlace), (ts.all (plainB P d)) = true → DataW.TrodAll enc P w base sp hd ts vs ds p →
    (∀ w' base' sp' hd', DataW.TrodAll enc P w' base' sp' hd' ts vs ds p) ∧ p = []
  | [], [], [], p, _, h => ⟨fun _ _ _ _ => h, h⟩
  | t :: ts, v :: vs, d' :: ds, p, hp, ⟨a, b, ⟨fuel, h1⟩, h2, h3⟩ => by
    simp only [List.all_cons, Bool.and_eq_true] at hp
    obtain ⟨k1, k2⟩ := trod_plain d t fuel _ _ hp.1 h1
    obtain ⟨k3, k4⟩ := trodAll_plain ts vs ds b hp.2 h2
    refine ⟨fun w' base' sp' hd' => ⟨a, b, ⟨fuel, k1 _ _ _ _⟩, k3 _ _ _ _, h3⟩, ?_⟩
    have k2 : a = [] := k2
    rw [h3, k2, k4]; rfl
  | [], _ :: _, _, _, _, h => h.elim
  | [], [], _ :: _, _, _, h => h.elim
  | _ :: _, [], _, _, _, h => h.elim
  | _ :: _, _ :: _, [], _, _, h => h.elim

theorem kept_of_same {w' : World} (h : Same (fun _ _ => False) w w') (may : MemPlace → Prop) : w.keptBut w' may := by
  refine ⟨h.io.1, h.io.2, fun i hi => ?_⟩
  cases ho : w.heap[i]? with
  | none => rw [Array.getElem?_eq_none_iff] at ho; omega
  | some o =>
    cases o with
    | cells c t fr =>
      obtain ⟨c', h1, h2, h3⟩ := h.cells i c t fr ho
      rw [h1]
      exact ⟨rfl, rfl, h2, fun j _ => h3 j (fun hx => hx)⟩
    | map es clock =>
      rw [h.obj i _ ho (fun c e fr hx => by cases hx)]
      exact Or.inr ⟨rfl, rfl⟩
    | _ =>
      rw [h.obj i _ ho (fun c e fr hx => by cases hx)]

/-- What a law's row says of a call that comes to true. -/
theorem post_law {f : Func} {s : ChangeSpec} {d : Nat} {W W' : World} {args : Array Value} {ds gs : List (DataW H)} {before : List MemPlace} {t : TypeId}
    (hW : DataW.Whole enc P f.params.toList s.vars false W args.toList ds gs before) (hv : s.vars = []) (hs : (s.fn H ds) = { results := [.lit (.bool true)], args := ds }) (hr : f.resultTypes = #[t]) (ht : P.underlying t = some .bool)
    (hp : (f.params.toList.all (plainB P d)) = true) (h : Same (fun _ _ => False) W W') : s.post enc P f false true false false W args (.bool true) W' := by
  have hW' := hW
  obtain ⟨p, q, hA, hV, rfl, _, _⟩ := hW
  rw [hv] at hV
  obtain ⟨rfl, rfl⟩ := ChangeShapes.trodVars_none hV
  obtain ⟨h1, rfl⟩ := trodAll_plain _ _ _ _ hp hA
  refine ⟨ds, [], [] ++ [], [], [], [], hW', ?_, ?_, ?_, kept_of_same h _, fun hx => by cases hx⟩
  · rw [List.append_nil, hs, hr]
    exact ⟨[], [], ⟨1, by simp [DataW.trod, Value.cells, ht]⟩, rfl, rfl⟩
  · rw [List.append_nil, hs]
    exact h1 _ _ _ _
  · rw [List.append_nil, hs, hv]; rfl

end

/-! ### Values of arguments -/
theorem okWide_int {P : Program} {w : World} {r : Reach} {b : Nat} {t : TypeId} {k : IntKind} {v : Value} (ht : P.underlying t = some (.int k)) (h : Value.okWide P w r b t v) : ∃ n, v = .int k n ∧ k.has n := by
  unfold Value.okWide at h
  rw [ht] at h
  simp only [Cell.okWide, Cell.ok, ht] at h
  split at h <;> simp_all
theorem okWide_bool {P : Program} {w : World} {r : Reach} {b : Nat} {t : TypeId} {v : Value} (ht : P.underlying t = some .bool) (h : Value.okWide P w r b t v) : ∃ x, v = .bool x := by
  unfold Value.okWide at h
  rw [ht] at h
  simp only [Cell.okWide, Cell.ok, ht] at h
  split at h <;> simp_all

theorem has_u {n : Int} (h : IntKind.u64.has n) : inU n := by
  simp [IntKind.has, IntKind.min, IntKind.max, IntKind.signed, IntKind.bits] at h
  unfold inU; omega
theorem has_i {n : Int} (h : IntKind.i64.has n) : inI n := by
  simp [IntKind.has, IntKind.min, IntKind.max, IntKind.signed, IntKind.bits] at h
  unfold inI; omega

inductive CK where
  | b
  | i (k : IntKind)

def good : CK → Value → Prop
  | .b, .bool _ => True
  | .i k, .int k' n => k' = k ∧ k.has n
  | _, _ => False

def Typed : List CK → List Value → Prop
  | [], [] => True
  | k :: ks, v :: vs => good k v ∧ Typed ks vs
  | _, _ => False

def ckOf (P : Program) (u : TypeId) : Option CK :=
  match P.underlying u with
  | some .bool => some .b
  | some (.int k) => some (.i k)
  | _ => none

theorem good_of {P : Program} {w : World} {r : Reach} {b : Nat} {u : TypeId} {v : Value} {k : CK} (hk : ckOf P u = some k) (h : Cell.okWide P w r b u v) : good k v := by
  unfold ckOf at hk
  unfold Cell.okWide Cell.ok at h
  split at hk
  · rename_i hu
    rw [hu] at h
    cases hk
    cases v <;> simp_all [good]
  · rename_i j hu
    rw [hu] at h
    cases hk
    cases v <;> simp_all [good]
  · cases hk

theorem typed_of : ∀ (ks : List CK) (vs : List Value), vs.length = ks.length → (∀ (i : Nat) (v : Value) (k : CK), vs[i]? = some v → ks[i]? = some k → good k v) → Typed ks vs
  | [], [], _, _ => trivial
  | [], _ :: _, h, _ => by simp at h
  | _ :: _, [], h, _ => by simp at h
  | k :: ks, v :: vs, h, hg => ⟨hg 0 v k rfl rfl, typed_of ks vs (by simpa using h) fun i v k h1 h2 => hg (i + 1) v k h1 h2⟩

theorem typed_row {P : Program} {w : World} {r : Reach} {b : Nat} {t : TypeId} {fs : Array Field} {v : Value} {ts : List TypeId} {ks : List CK} (hu : P.underlying t = some (.struct fs)) (hts : P.cellTypes P.depth t = some ts) (hk : ts.map (ckOf P) = ks.map some) (hl : P.cellsOf t = ks.length)
    (h : Value.okWide P w r b t v) : ∃ cs : List Value, v = .agg cs.toArray ∧ Typed ks cs := by
  unfold Value.okWide at h
  rw [hu] at h
  obtain ⟨cs, rfl, hsz, ts', h1, _, h3⟩ := h
  rw [hts] at h1
  cases h1
  have hlen : ts.length = ks.length := by simpa using congrArg List.length hk
  refine ⟨cs.toList, rfl, typed_of _ _ (by rw [← hl, ← hsz]; simp) fun i x k hx hkx => ?_⟩
  have hi : i < ks.length := (List.getElem?_eq_some_iff.1 hkx).1
  obtain ⟨u, h4, h5⟩ := h3 i x (by simpa using hx)
  rw [hlen, Nat.mod_eq_of_lt hi] at h4
  refine good_of ?_ h5
  have := congrArg (fun l => l[i]?) hk
  simp only [List.getElem?_map, h4, hkx, Option.map_some] at this
  exact Option.some.inj this

/-! ### Capabilities, harts -/
structure CTy (c : Cap) : Prop where
  perms : inI c.perms
  type : inI c.type
  mode : inI c.mode
  e : inI c.e
  b : inI c.b
  t : inI c.t
  addr : inU c.addr

def capK : List CK := [.b, .i .i64, .i .i64, .i .i64, .i .i64, .i .i64, .i .i64, .b, .i .u64]

theorem typed_bool {ks : List CK} {vs : List Value} (h : Typed (.b :: ks) vs) : ∃ x vs', vs = .bool x :: vs' ∧ Typed ks vs' := by
  match vs, h with
  | .bool x :: vs', ⟨_, h2⟩ => exact ⟨x, vs', rfl, h2⟩
theorem typed_u {ks : List CK} {vs : List Value} (h : Typed (.i .u64 :: ks) vs) : ∃ n vs', vs = .int .u64 n :: vs' ∧ inU n ∧ Typed ks vs' := by
  match vs, h with
  | .int k n :: vs', ⟨⟨h0, h1⟩, h2⟩ => subst h0; exact ⟨n, vs', rfl, has_u h1, h2⟩
theorem typed_i {ks : List CK} {vs : List Value} (h : Typed (.i .i64 :: ks) vs) : ∃ n vs', vs = .int .i64 n :: vs' ∧ inI n ∧ Typed ks vs' := by
  match vs, h with
  | .int k n :: vs', ⟨⟨h0, h1⟩, h2⟩ => subst h0; exact ⟨n, vs', rfl, has_i h1, h2⟩

theorem typed_cap {ks : List CK} {vs : List Value} (h : Typed (capK ++ ks) vs) : ∃ c vs', vs = capCells c ++ vs' ∧ CTy c ∧ Typed ks vs' := by
  obtain ⟨a, _, rfl, q1⟩ := typed_bool h
  obtain ⟨b, _, rfl, hb, q2⟩ := typed_i q1
  obtain ⟨c, _, rfl, hc, q3⟩ := typed_i q2
  obtain ⟨d, _, rfl, hd, q4⟩ := typed_i q3
  obtain ⟨e, _, rfl, he, q5⟩ := typed_i q4
  obtain ⟨f, _, rfl, hf, q6⟩ := typed_i q5
  obtain ⟨g, _, rfl, hg, q7⟩ := typed_i q6
  obtain ⟨x, _, rfl, q8⟩ := typed_bool q7
  obtain ⟨i, _, rfl, hi, q9⟩ := typed_u q8
  exact ⟨⟨a, b, c, d, e, f, g, x, i⟩, _, rfl, ⟨hb, hc, hd, he, hf, hg, hi⟩, q9⟩

theorem typed_caps : ∀ (n : Nat) {ks : List CK} {vs : List Value}, Typed ((List.replicate n capK).flatten ++ ks) vs → ∃ (f : Nat → Cap) (vs' : List Value), vs = ((List.range n).flatMap fun i => capCells (f i)) ++ vs' ∧ (∀ i, i < n → CTy (f i)) ∧ Typed ks vs'
  | 0, ks, vs, h => ⟨fun _ => default, vs, rfl, fun i hi => by omega, h⟩
  | n + 1, ks, vs, h => by
    rw [List.replicate_succ, List.flatten_cons, List.append_assoc] at h
    obtain ⟨c, vs1, rfl, hc, q1⟩ := typed_cap h
    obtain ⟨f, vs2, rfl, hf, q2⟩ := typed_caps n q1
    refine ⟨fun i => match i with | 0 => c | i + 1 => f i, vs2, ?_, fun i hi => ?_, q2⟩
    · rw [List.range_succ_eq_map, List.flatMap_cons, List.flatMap_map, List.append_assoc]
    · cases i with
      | zero => exact hc
      | succ i => exact hf i (by omega)

/-- A hart whose numbers are of their kinds. -/
structure HTy (h : Hart) : Prop where
  x : ∀ i, i < 32 → CTy (h.x i)
  pcc : CTy h.pcc
  ddc : CTy h.ddc
  stcc : CTy h.stcc
  stdc : CTy h.stdc
  sscr : CTy h.sscr
  sepcc : CTy h.sepcc
  mtcc : CTy h.mtcc
  mtdc : CTy h.mtdc
  mscr : CTy h.mscr
  mepcc : CTy h.mepcc
  priv : inI h.priv
  mstatus : inU h.mstatus
  medeleg : inU h.medeleg
  mideleg : inU h.mideleg
  mie : inU h.mie
  mip : inU h.mip
  mscratch : inU h.mscratch
  sscratch : inU h.sscratch
  mcause : inU h.mcause
  scause : inU h.scause
  mtval : inU h.mtval
  stval : inU h.stval
  satp : inU h.satp
  mcounteren : inU h.mcounteren
  scounteren : inU h.scounteren
  cycle : inU h.cycle
  instret : inU h.instret

def hartK : List CK := (List.replicate 32 capK).flatten ++ (capK ++ (capK ++ (capK ++ (capK ++ (capK ++ (capK ++ (capK ++ (capK ++ (capK ++ (capK ++
  [.i .i64, .i .u64, .i .u64, .i .u64, .i .u64, .i .u64, .i .u64, .i .u64, .i .u64, .i .u64, .i .u64, .i .u64, .i .u64, .i .u64, .i .u64, .i .u64, .i .u64, .b]))))))))))

theorem typed_hart {vs : List Value} (h : Typed hartK vs) : ∃ x : Hart, vs = hartCells x ∧ HTy x := by
  obtain ⟨f, _, rfl, hx, q1⟩ := typed_caps 32 h
  obtain ⟨c0, _, rfl, h0, q2⟩ := typed_cap q1
  obtain ⟨c1, _, rfl, h1, q3⟩ := typed_cap q2
  obtain ⟨c2, _, rfl, h2, q4⟩ := typed_cap q3
  obtain ⟨c3, _, rfl, h3, q5⟩ := typed_cap q4
  obtain ⟨c4, _, rfl, h4, q6⟩ := typed_cap q5
  obtain ⟨c5, _, rfl, h5, q7⟩ := typed_cap q6
  obtain ⟨c6, _, rfl, h6, q8⟩ := typed_cap q7
  obtain ⟨c7, _, rfl, h7, q9⟩ := typed_cap q8
  obtain ⟨c8, _, rfl, h8, q10⟩ := typed_cap q9
  obtain ⟨c9, _, rfl, h9, q11⟩ := typed_cap q10
  obtain ⟨p, _, rfl, hp, q12⟩ := typed_i q11
  obtain ⟨k1, _, rfl, g1, q13⟩ := typed_u q12
  obtain ⟨k2, _, rfl, g2, q14⟩ := typed_u q13
  obtain ⟨k3, _, rfl, g3, q15⟩ := typed_u q14
  obtain ⟨k4, _, rfl, g4, q16⟩ := typed_u q15
  obtain ⟨k5, _, rfl, g5, q17⟩ := typed_u q16
  obtain ⟨k6, _, rfl, g6, q18⟩ := typed_u q17
  obtain ⟨k7, _, rfl, g7, q19⟩ := typed_u q18
  obtain ⟨k8, _, rfl, g8, q20⟩ := typed_u q19
  obtain ⟨k9, _, rfl, g9, q21⟩ := typed_u q20
  obtain ⟨k10, _, rfl, g10, q22⟩ := typed_u q21
  obtain ⟨k11, _, rfl, g11, q23⟩ := typed_u q22
  obtain ⟨k12, _, rfl, g12, q24⟩ := typed_u q23
  obtain ⟨k13, _, rfl, g13, q25⟩ := typed_u q24
  obtain ⟨k14, _, rfl, g14, q26⟩ := typed_u q25
  obtain ⟨k15, _, rfl, g15, q27⟩ := typed_u q26
  obtain ⟨k16, _, rfl, g16, q28⟩ := typed_u q27
  obtain ⟨w, vs', rfl, q29⟩ := typed_bool q28
  have : vs' = [] := by cases vs' <;> first | rfl | exact q29.elim
  subst this
  exact ⟨⟨f, c0, c1, c2, c3, c4, c5, c6, c7, c8, c9, p, k1, k2, k3, k4, k5, k6, k7, k8, k9, k10, k11, k12, k13, k14, k15, k16, w⟩, rfl,
    ⟨hx, h0, h1, h2, h3, h4, h5, h6, h7, h8, h9, hp, g1, g2, g3, g4, g5, g6, g7, g8, g9, g10, g11, g12, g13, g14, g15, g16⟩⟩

/-! ### A statement's call -/
theorem canA_wf {R : Rows} {nx : Nat → Prop} : ∀ (l : List Pa) (x : Ins l) (k : Nat), cnt l = 0 → ∀ a ∈ canA l x k, wf R nx a
  | [], _, _, _, a, h => by cases h
  | .v s :: r, x, k, h, a, ha => by
    rcases List.mem_cons.1 ha with rfl | ha
    · exact s.av_wf x.1
    · exact canA_wf r x.2 k h a ha
  | .p _ :: _, _, _, h, _, _ => by simp [cnt] at h

theorem canA_len : ∀ (l : List Pa) (x : Ins l) (k : Nat), (canA l x k).length = l.length
  | [], _, _ => rfl
  | .v _ :: r, x, k => by simp only [canA, List.length_cons, canA_len r x.2 k]
  | .p _ :: r, x, k => by simp only [canA, List.length_cons, canA_len r x.2 (k + 1)]

/-- A law's call, by its own run. -/
theorem law_calls {P : Program} {C : Ctx} (hC : CtxOk P C) (hmix : P.follows .mixedOrders = true) {g : FuncId} {fn : Func} {l : List Pa} (hf : FnIs P C g fn l.length) (hl : cnt l = 0) (x : Ins l) (β : Bt)
    (ht : (runT C fn l (.one .bo) x).holds fun r => r.1 = true) (w : World) : Calls P g ((canA l x 0).map (toV C.R β)).toArray w fun e w' => e = .returned (.bool true) ∧ Same (fun _ _ => False) w w' := by
  obtain ⟨c, hb, hok, hB⟩ := hf.body
  have hR₀ : Rel C.R β (objM l (objsOf l x) 0) (bel (cnt l)) w :=
    ⟨fun y hy => absurd hy (by unfold bel; omega), fun y _ => (by rw [objM_low l _ 0 y (by omega)]; rfl), fun a b ha => absurd ha (by unfold bel; omega)⟩
  unfold runT at ht
  refine (fnEv_calls hC hmix hf.at_ hb hok hB (by rw [canA_len]; exact hf.args) hR₀ (canA_wf l x 0 hl) ht).mono fun e w' ⟨o, m', nx', β', k1, k2, k3, k4⟩ => ?_
  cases o with
  | pan v => exact k1.elim
  | ret v =>
    obtain ⟨k5, k6, rfl⟩ := k4
    simp only [] at k1
    split at k1
    · rename_i y z hy hz
      have k1 : y = true := k1
      subst k1
      refine ⟨?_, k3.same.mono fun b j _ hx => ?_⟩
      · rw [Re.rd_toV hy]; rfl
      · obtain ⟨i, hi, _⟩ := hx
        unfold bel at hi; omega
    · exact k1.elim

end Go.Mir

namespace Go.Mir

/-! ### Numbers and records of some slots, or of some objects -/
@[reducible] def ZD : List (Nat × Sh) → Type
  | [] => Unit
  | p :: r => p.2.D × ZD r

def zE : (l : List (Nat × Sh)) → ZD l → List (Nat × AV)
  | [], _ => []
  | p :: r, x => (p.1, p.2.av x.1) :: zE r x.2

def rdZ (R : Rows) (look : Nat → AV) : (l : List (Nat × Sh)) → Option (ZD l)
  | [] => some ()
  | p :: r => match p.2.rd R (look p.1), rdZ R look r with | some x, some y => some (x, y) | _, _ => none

/-- Is it the same simple value? -/
def avEq : AV → AV → Bool
  | .ptr i [], .ptr j [] => Nat.beq i j
  | .sl i (.lit a) (.lit b) s, .sl j (.lit a') (.lit b') s' => Nat.beq i j && Nat.beq a a' && Nat.beq b b' && Nat.beq s s'
  | .ff, .ff => true
  | .tt, .tt => true
  | _, _ => false

theorem avEq_eq : ∀ {a b : AV}, avEq a b = true → a = b := by
  intro a b h
  unfold avEq at h
  split at h
  · rw [Nat.eq_of_beq_eq_true h]
  · simp only [Bool.and_eq_true] at h
    obtain ⟨⟨⟨h1, h2⟩, h3⟩, h4⟩ := h
    rw [Nat.eq_of_beq_eq_true h1, Nat.eq_of_beq_eq_true h2, Nat.eq_of_beq_eq_true h3, Nat.eq_of_beq_eq_true h4]
  · rfl
  · rfl
  · cases h

def fixE (s : Env) : Env → Bool
  | [] => true
  | p :: r => bif avEq (lk s p.1) p.2 then fixE s r else false

/-- What a loop goes by: slots and objects with numbers and records; slots and objects that stay; how many objects. -/
structure Lp where
  E : List (Nat × Sh)
  FE : Env
  M : List (Nat × Sh)
  FM : Mem
  N : Nat

/-- All numbers of objects are below the number of objects. -/
def Lp.small (L : Lp) : Bool := (L.M.all fun p => Nat.blt p.1 L.N) && L.FM.all fun p => Nat.blt p.1 L.N

def Lp.env (L : Lp) (x : ZD L.E) : Env := zE L.E x ++ L.FE
def Lp.mem (L : Lp) (y : ZD L.M) : Mem := zE L.M y ++ L.FM

abbrev Lp.Out (L : Lp) : Type := Bool × (ZD L.E × ZD L.M) × List AV

/-- A round: whether another one follows, and what is behind it. -/
def Lp.k (R : Rows) (L : Lp) (id : Nat) (e : Ex) (s : Env) (m : Mem) (_ : Nat) : T L.Out :=
  match e with
  | .normal => (match rdZ R (lk s) L.E, rdZ R (lk m) L.M, fixE s L.FE with | some x, some y, true => .ret (true, (x, y), L.FM.map fun p => lk m p.1) | _, _, _ => .fail 201)
  | .exit i => (match rdZ R (lk s) L.E, rdZ R (lk m) L.M, fixE s L.FE, Nat.beq i id with | some x, some y, true, true => .ret (false, (x, y), L.FM.map fun p => lk m p.1) | _, _, _, _ => .fail 202)
  | _ => .fail 203

/-- A loop's summary: from what it begins with, what it ends with. -/
def Lp.spec (R : Rows) (L : Lp) (pre : ZD L.E → ZD L.M → Prop) (f : ZD L.E → ZD L.M → ZD L.E × ZD L.M) : BSpec := fun _ s m nx K =>
  match rdZ R (lk s) L.E, rdZ R (lk m) L.M, fixE s L.FE, Nat.beq nx L.N with
  | some x, some y, true, true => .need ((L.FM.map fun p => lk m p.1) = L.FM.map (·.2)) (.need (pre x y) (K .normal (L.env (f x y).1) (L.mem (f x y).2) L.N))
  | _, _, _, _ => .fail 204

section
variable {P : Program} {C : Ctx}

theorem lk_append : ∀ (a b : List (Nat × AV)) (t : Nat), lk (a ++ b) t = if (a.any fun p => Nat.beq t p.1) = true then lk a t else lk b t
  | [], b, t => rfl
  | p :: r, b, t => by
    obtain ⟨i, v⟩ := p
    by_cases e : t = i
    · subst e; simp [lk_cons_same, Nat.beq_refl]
    · have hb : Nat.beq t i = false := beq_ne e
      rw [List.cons_append, lk_cons_ne _ e, lk_append r b t, lk_cons_ne _ e, List.any_cons, show Nat.beq t (i, v).1 = false from hb, Bool.false_or]

/-- What is read of some slots lies in them. -/
theorem rdZ_eq {R : Rows} {look : Nat → AV} : ∀ (l : List (Nat × Sh)) (x : ZD l), rdZ R look l = some x → ∀ t, ((zE l x).any fun p => Nat.beq t p.1) = true → ∃ (s : Sh) (z : s.D), lk (zE l x) t = s.av z ∧ s.rd R (look t) = some z
  | [], _, _, t, h => by cases h
  | p :: r, x, h, t, ht => by
    simp only [rdZ] at h
    split at h
    · rename_i a b h1 h2
      simp only [Option.some.injEq] at h
      subst h
      by_cases e : t = p.1
      · subst e
        exact ⟨p.2, a, by simp only [zE]; exact lk_cons_same _ _, h1⟩
      · have hb : Nat.beq t p.1 = false := beq_ne e
        simp only [zE, List.any_cons, hb, Bool.false_or] at ht
        obtain ⟨s, z, g1, g2⟩ := rdZ_eq r b h2 t ht
        exact ⟨s, z, by simp only [zE]; rw [lk_cons_ne _ e]; exact g1, g2⟩
    · cases h

theorem fixE_eq {s : Env} : ∀ (l : Env), fixE s l = true → ∀ p ∈ l, lk s p.1 = p.2
  | [], _, p, hp => by cases hp
  | q :: r, h, p, hp => by
    simp only [fixE] at h
    cases hq : avEq (lk s q.1) q.2 with
    | false => rw [hq] at h; cases h
    | true =>
      rw [hq] at h
      rcases List.mem_cons.1 hp with rfl | hp
      · exact avEq_eq hq
      · exact fixE_eq r h p hp

theorem lk_mem : ∀ (l : List (Nat × AV)) (t : Nat), isUnk (lk l t) = false → (t, lk l t) ∈ l
  | [], t, h => by cases h
  | p :: r, t, h => by
    obtain ⟨i, v⟩ := p
    by_cases e : t = i
    · subst e; rw [lk_cons_same]; simp
    · rw [lk_cons_ne _ e] at h ⊢
      exact List.mem_cons_of_mem _ (lk_mem r t h)

theorem any_zE (l : List (Nat × Sh)) (x : ZD l) (t : Nat) : ((zE l x).any fun p => Nat.beq t p.1) = l.any fun p => Nat.beq t p.1 := by
  induction l with
  | nil => rfl
  | cons p r ih => simp only [zE, List.any_cons, ih x.2]

/-- The slots alone that a loop goes by. -/
theorem Lp.cutE {L : Lp} {β : Bt} {ny : Nat → Prop} {s : Env} {a : Act} {x : ZD L.E} (hE : EnvR C.R β ny s a) (hx : rdZ C.R (lk s) L.E = some x) (hf : fixE s L.FE = true)
    (hw : ∀ p ∈ L.FE, wfe C.R (bel L.N) p.2) : EnvR C.R β (bel L.N) (L.env x) a := by
  intro t
  unfold Lp.env
  rw [lk_append]
  by_cases ht : ((zE L.E x).any fun p => Nat.beq t p.1) = true
  · rw [if_pos ht]
    obtain ⟨sh, z, h1, h2⟩ := rdZ_eq L.E x hx t ht
    rw [h1]
    refine .inr ⟨wf_wfe (sh.av_wf z), ?_⟩
    rw [((hE t).eq (Sh.rd_notUnk h2)).2, Sh.rd_toV h2]
  · rw [if_neg ht]
    cases hu : isUnk (lk L.FE t) with
    | true => exact .inl hu
    | false =>
      have hm := lk_mem L.FE t hu
      refine .inr ⟨hw _ hm, ?_⟩
      have e : lk s t = lk L.FE t := fixE_eq L.FE hf _ hm
      have := hE t
      rw [e] at this
      exact (this.eq hu).2

theorem Lp.cutM {L : Lp} (hs : L.small = true) {β : Bt} {nx : Nat} {m : Mem} {w : World} {y : ZD L.M} (hR : Rel C.R β m (bel nx) w) (hn : L.N ≤ nx) (hy : rdZ C.R (lk m) L.M = some y) (hf : (L.FM.map fun p => lk m p.1) = L.FM.map (·.2))
    (hw : ∀ p ∈ L.FM, wf C.R (bel L.N) p.2) : Rel C.R β (L.mem y) (bel L.N) w ∧ ∀ t, isUnk (lk (L.mem y) t) = false → isUnk (lk m t) = false ∧ sz C.R (lk (L.mem y) t) = sz C.R (lk m t) := by
  simp only [Lp.small, Bool.and_eq_true, List.all_eq_true] at hs
  have key : ∀ t, isUnk (lk (L.mem y) t) = false → t < L.N ∧ isUnk (lk m t) = false ∧ flat C.R β (lk (L.mem y) t) = flat C.R β (lk m t) ∧ sz C.R (lk (L.mem y) t) = sz C.R (lk m t) ∧ wf C.R (bel L.N) (lk (L.mem y) t) ∧ (roomy (lk m t) (β.reg t) → roomy (lk (L.mem y) t) (β.reg t)) := by
    intro t hu
    unfold Lp.mem at hu ⊢
    rw [lk_append] at hu ⊢
    by_cases ht : ((zE L.M y).any fun p => Nat.beq t p.1) = true
    · rw [if_pos ht] at hu ⊢
      obtain ⟨sh, z, h1, h2⟩ := rdZ_eq L.M y hy t ht
      rw [h1]
      obtain ⟨f1, f2, _⟩ := sh.rd_eq (R := C.R) (β := β) (lk m t) z h2
      rw [any_zE] at ht
      obtain ⟨p, hp, hb⟩ := List.any_eq_true.1 ht
      have e : t = p.1 := Nat.eq_of_beq_eq_true hb
      exact ⟨by rw [e]; exact blt_lt (hs.1 p hp), Sh.rd_notUnk h2, f1.symm, f2.symm, sh.av_wf z, fun _ => sh.av_roomy z _⟩
    · rw [if_neg ht] at hu ⊢
      have hm := lk_mem L.FM t hu
      have e : lk m t = lk L.FM t := by
        have := List.map_inj_left.1 hf _ hm
        exact this
      rw [← e] at hu ⊢
      exact ⟨blt_lt (hs.2 _ hm), hu, rfl, rfl, by rw [e]; exact hw _ hm, fun h => h⟩
  refine ⟨⟨fun i hi hu => ?_, fun i hi => ?_, fun i j hi hj hij hu hv => ?_⟩, fun t hu => ⟨(key t hu).2.1, (key t hu).2.2.2.1⟩⟩
  · obtain ⟨k1, k2, k3, k4, k5, k6⟩ := key i hu
    obtain ⟨o1, o2, o3⟩ := hR.own i (by unfold bel at *; omega) k2
    rw [k3]
    exact ⟨o1, k5, k6 o3⟩
  · cases hu : isUnk (lk (L.mem y) i) with
    | true => rfl
    | false => exact absurd (key i hu).1 hi
  · exact hR.apart i j (by unfold bel at *; omega) (by unfold bel at *; omega) hij (key i hu).2.1 (key j hv).2.1

/-- A loop's summary holds, if each round keeps what is asked of it. -/
theorem Lp.sound (hC : CtxOk P C) (hmix : P.follows .mixedOrders = true) {N : Nat} {D : List Deferred} {id : Nat} {c : Code} (hok : codeOk N c = true) (hB : Blks (fun id c => ∀ S, C.B id = some S → BSound P C N D id c S) c)
    (L : Lp) (hs : L.small = true) (hn : L.FE.all (fun p => !isUnk p.2) = true ∧ L.FM.all (fun p => !isUnk p.2) = true) {pre : ZD L.E → ZD L.M → Prop} {f : ZD L.E → ZD L.M → ZD L.E × ZD L.M}
    (I : ZD L.E → ZD L.M → ZD L.E → ZD L.M → Prop) (μ : ZD L.E → Nat) (h0 : ∀ x y, pre x y → I x y x y)
    (hstep : ∀ x₀ y₀ x y, I x₀ y₀ x y → (mev C c (L.env x) (L.mem y) L.N (L.k C.R id)).holds fun r => (r.2.2 = L.FM.map (·.2)) ∧ (r.1 = true → I x₀ y₀ r.2.1.1 r.2.1.2 ∧ μ r.2.1.1 < μ x) ∧ (r.1 = false → r.2.1 = f x₀ y₀)) :
    BSound P C N D id (.loop c) (L.spec C.R pre f) := by
  intro α Q s m nx K β a w Qx hE hR hN hD h hK
  unfold Lp.spec at h
  split at h
  · rename_i x₀ y₀ hx hy hf hnx
    obtain ⟨hFM, hpre, hk⟩ := h
    have e : nx = L.N := Nat.eq_of_beq_eq_true hnx
    subst e
    have wFE : ∀ p ∈ L.FE, wfe C.R (bel L.N) p.2 := fun p hp => by
      have e := fixE_eq L.FE hf p hp
      have hu : isUnk p.2 = false := by simpa using List.all_eq_true.1 hn.1 p hp
      have := hE p.1
      rw [e] at this
      exact (this.eq hu).1
    have wFM : ∀ p ∈ L.FM, wf C.R (bel L.N) p.2 := fun p hp => by
      have e : lk m p.1 = p.2 := List.map_inj_left.1 hFM p hp
      have hu : isUnk p.2 = false := by simpa using List.all_eq_true.1 hn.2 p hp
      have hlt : bel L.N p.1 := by
        simp only [Lp.small, Bool.and_eq_true, List.all_eq_true] at hs
        exact blt_lt (hs.2 p hp)
      have := (hR.own p.1 hlt (by rw [e]; exact hu)).2.1
      rwa [e] at this
    -- the rounds
    have main : ∀ (n : Nat) (x : ZD L.E) (y : ZD L.M) (β' : Bt) (a' : Act) (w' : World), μ x < n → I x₀ y₀ x y → EnvR C.R β' (bel L.N) (L.env x) a' → Rel C.R β' (L.mem y) (bel L.N) w' → Ext C.R β m (bel L.N) w β' (L.mem y) (bel L.N) w' → a'.tmps.size = N → a'.defers = D →
        Code.rounds P c (Exit.inBlock id Qx) n a' w' := by
      intro n
      induction n with
      | zero => intro x y β' a' w' hlt; omega
      | succ n ih =>
        intro x y β' a' w' hlt hI hE' hR' hX hN' hD'
        refine mev_sound hC hmix c hok hB _ (L.env x) (L.mem y) L.N (L.k C.R id) β' a' w' _ hE' hR' hN' hD' (hstep x₀ y₀ x y hI) ?_
        intro e s2 m2 nx2 β2 a2 w2 g1 _ g3 g4 g5 g6 g7
        have hle : L.N ≤ nx2 := by
          by_cases hz : L.N = 0
          · omega
          · have := g5.le (L.N - 1) (by unfold bel; omega)
            unfold bel at this; omega
        have cut : ∀ (x2 : ZD L.E) (y2 : ZD L.M), rdZ C.R (lk s2) L.E = some x2 → rdZ C.R (lk m2) L.M = some y2 → fixE s2 L.FE = true → (L.FM.map fun p => lk m2 p.1) = L.FM.map (·.2) →
            EnvR C.R β2 (bel L.N) (L.env x2) a2 ∧ Rel C.R β2 (L.mem y2) (bel L.N) w2 ∧ Ext C.R β m (bel L.N) w β2 (L.mem y2) (bel L.N) w2 := by
          intro x2 y2 q1 q2 q3 q4
          obtain ⟨r1, r2⟩ := Lp.cutM hs g4 hle q2 q4 wFM
          refine ⟨Lp.cutE g3 q1 q3 wFE, r1, ?_⟩
          refine hX.trans ⟨fun i hi => hi, g5.alike, g5.same, fun b j hb hx => ?_⟩
          obtain ⟨i, hi, hu, h1, h2, h3⟩ := hx
          refine g5.fp b j hb ⟨i, by unfold bel at *; omega, (r2 i hu).1, h1, h2, ?_⟩
          rw [← (r2 i hu).2]; exact h3
        cases e with
        | normal =>
          simp only [Lp.k] at g1
          split at g1
          · rename_i x2 y2 q1 q2 q3
            obtain ⟨k1, k2, _⟩ := g1
            obtain ⟨k3, k4⟩ := k2 rfl
            obtain ⟨c1, c2, c3⟩ := cut x2 y2 q1 q2 q3 k1
            exact ih x2 y2 β2 a2 w2 (by simp only at k4; omega) k3 c1 c2 c3 g6 g7
          · exact g1.elim
        | exit i =>
          simp only [Lp.k] at g1
          split at g1
          · rename_i x2 y2 q1 q2 q3 q5
            obtain ⟨k1, _, k2⟩ := g1
            have k2 := k2 rfl
            simp only at k2
            obtain ⟨c1, c2, c3⟩ := cut x2 y2 q1 q2 q3 k1
            have ei : i = id := Nat.eq_of_beq_eq_true q5
            subst ei
            rw [← k2] at hk
            show Exit.inBlock i Qx (Exit.exit i) a2 w2
            simp only [Exit.inBlock, if_pos]
            exact hK .normal (L.env x2) (L.mem y2) L.N β2 a2 w2 hk trivial c1 c2 c3 g6 g7
          · exact g1.elim
        | ret => exact g1.elim
        | pan v => exact g1.elim
    obtain ⟨r1, r2⟩ := Lp.cutM hs hR (Nat.le_refl _) hy hFM wFM
    refine wp_block (wp_loop_rounds (μ x₀ + 1) (main (μ x₀ + 1) x₀ y₀ β a w (by omega) (h0 x₀ y₀ hpre) (Lp.cutE hE hx hf wFE) r1 ⟨fun i hi => hi, Alike.refl, Same.refl _ _, fun b j hb hx => ?_⟩ hN hD))
    obtain ⟨i, hi, hu, h1, h2, h3⟩ := hx
    refine ⟨i, hi, (r2 i hu).1, h1, h2, ?_⟩
    rw [← (r2 i hu).2]; exact h3
  · exact h.elim

end

/-! ### Contexts with summaries of blocks -/
def mkCtxB (R : Rows) (ps : List (Nat × PSpec)) (ss : List (Nat × Spec)) (bs : List (Nat × BSpec)) (fuel : Nat) : Ctx :=
  { R := R, Ψ := fun g => mkCtx.lkP ps g, Φ := fun g => lkS ss g, B := fun i => lkB bs i, gl := fun _ => .unk, fuel := fuel }
where
  lkB : List (Nat × BSpec) → Nat → Option BSpec
    | [], _ => none
    | (j, s) :: r, g => bif Nat.beq g j then some s else lkB r g

theorem ListsOk.ctxB {P : Program} {R : Rows} {ps : List (Nat × PSpec)} {ss : List (Nat × Spec)} (h : ListsOk P R ps ss) (bs : List (Nat × BSpec)) (fuel : Nat) : CtxOk P (mkCtxB R ps ss bs fuel) :=
  ⟨h.tab, fun _ _ hg => h.p _ (lkP_mem hg), fun _ _ hg => h.s _ (lkS_mem hg), fun _ => rfl⟩

def blocksOf : Code → List (Nat × Code)
  | .seq a b => blocksOf a ++ blocksOf b
  | .cond _ a b => blocksOf a ++ blocksOf b
  | .block id c => (id, c) :: blocksOf c
  | .loop c => blocksOf c
  | _ => []

theorem Blks.of {X : Nat → Code → Prop} : ∀ (c : Code), (∀ p ∈ blocksOf c, X p.1 p.2) → Blks X c
  | .seq a b, h => ⟨Blks.of a fun p hp => h p (by simp [blocksOf, hp]), Blks.of b fun p hp => h p (by simp [blocksOf, hp])⟩
  | .cond _ a b, h => ⟨Blks.of a fun p hp => h p (by simp [blocksOf, hp]), Blks.of b fun p hp => h p (by simp [blocksOf, hp])⟩
  | .block id c, h => ⟨h (id, c) (by simp [blocksOf]), Blks.of c fun p hp => h p (by simp [blocksOf, hp])⟩
  | .loop c, h => Blks.of c fun p hp => h p (by simpa [blocksOf] using hp)
  | .skip, _ => trivial
  | .region .., _ => trivial
  | .rangeFunc .., _ => trivial
  | .exit _, _ => trivial
  | .scope _, _ => trivial
  | .label _, _ => trivial
  | .goto _, _ => trivial
  | .ret, _ => trivial
  | .refuse _, _ => trivial

def findB : List (Nat × Code) → Nat → Option Code
  | [], _ => none
  | p :: r, i => bif Nat.beq i p.1 then some p.2 else findB r i

def nodupB : List (Nat × Code) → Bool
  | [] => true
  | p :: r => (match findB r p.1 with | none => true | some _ => false) && nodupB r

theorem findB_of : ∀ {l : List (Nat × Code)} {p : Nat × Code}, nodupB l = true → p ∈ l → findB l p.1 = some p.2
  | q :: r, p, h, hp => by
    simp only [nodupB, Bool.and_eq_true] at h
    rcases List.mem_cons.1 hp with rfl | hp
    · simp [findB, Nat.beq_refl]
    · have := findB_of h.2 hp
      by_cases e : p.1 = q.1
      · rw [e] at this
        rw [this] at h
        cases h.1
      · simp only [findB, beq_ne e, cond_false]; exact this

/-- A piece of code whose blocks' summaries hold. -/
theorem blks_ctx {P : Program} {R : Rows} {ps : List (Nat × PSpec)} {ss : List (Nat × Spec)} {bs : List (Nat × BSpec)} {fuel : Nat} {N : Nat} {D : List Deferred} {c : Code} (hd : nodupB (blocksOf c) = true)
    (h : ∀ q ∈ bs, ∀ c', findB (blocksOf c) q.1 = some c' → BSound P (mkCtxB R ps ss bs fuel) N D q.1 c' q.2) : Blks (fun id c => ∀ S, (mkCtxB R ps ss bs fuel).B id = some S → BSound P (mkCtxB R ps ss bs fuel) N D id c S) c := by
  refine Blks.of c fun p hp S hS => ?_
  have hf := findB_of hd hp
  have : ∀ (l : List (Nat × BSpec)), mkCtxB.lkB l p.1 = some S → (p.1, S) ∈ l := by
    intro l
    induction l with
    | nil => intro h; cases h
    | cons q r ih =>
      intro h
      obtain ⟨j, T⟩ := q
      simp only [mkCtxB.lkB] at h
      by_cases e : p.1 = j
      · subst e
        rw [Nat.beq_refl] at h
        simp only [cond_true, Option.some.injEq] at h
        subst h; simp
      · rw [beq_ne e] at h
        exact List.mem_cons_of_mem _ (ih h)
  exact h (p.1, S) (this bs hS) p.2 hf

end Go.Mir
