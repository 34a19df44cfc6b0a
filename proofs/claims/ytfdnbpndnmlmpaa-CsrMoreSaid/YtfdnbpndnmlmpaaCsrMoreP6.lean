/-
A part of the proof: The mirror, part 36: from a statement's own run to the given rows: arguments without references.
-/
import Derived.OpenShut
import Derived.ProofKit
import Derived.DataShut
import Derived.Test.YtfdnbpndnmlmpaaCsrMoreP5

set_option linter.unusedVariables false
set_option linter.unusedSimpArgs false

namespace Go.Mir

/-! ### Types without references -/
def plainB (P : Program) : Nat → TypeId → Bool
  | 0, _ => false
  | d + 1, t =>
    match P.underlying t with
    | some .bool => true
    | some (.int _) => true
    | some (.struct fs) => fs.toList.all fun f => plainB P d f.type
    | some (.array _ e) => plainB P d e
    | _ => false

section
variable {H : Type} {enc : TypeId × Value → H} {P : Program} {w : World} {base : Nat} {sp : Nat → Bool} {hd : Bool}

theorem trod_plain : ∀ (d : Nat) (t : TypeId) (fuel : Nat) (cs : List Value) (x : DataW H × List MemPlace), plainB P d t = true → DataW.trod enc P w base sp hd fuel t cs = some x →
    (∀ w' base' sp' hd', DataW.trod enc P w' base' sp' hd' fuel t cs = some x) ∧ x.2 = []
  | 0, _, _, _, _, h, _ => by cases h
  | d + 1, t, fuel, cs, x, h, hx => by
    unfold plainB at h
    split at h
    · rename_i hu
      cases fuel with
      | zero => simp [DataW.trod] at hx
      | succ m =>
        have hb : ∃ b, cs = [.bool b] ∧ x = (.lit (.bool b), []) := by
          unfold DataW.trod at hx
          rw [hu] at hx
          split at hx <;> simp_all
        obtain ⟨b, rfl, rfl⟩ := hb
        exact ⟨fun w' base' sp' hd' => by simp [DataW.trod, hu], rfl⟩
    · rename_i k hu
      cases fuel with
      | zero => simp [DataW.trod] at hx
      | succ m =>
        have hb : ∃ b, cs = [.int k b] ∧ x = (.lit (.int k b), []) ∧ (Lit.int k b).wf = true := by
          unfold DataW.trod at hx
          rw [hu] at hx
          split at hx <;> simp_all
        obtain ⟨b, rfl, rfl, hw⟩ := hb
        exact ⟨fun w' base' sp' hd' => by simp [DataW.trod, hu, hw], rfl⟩
    · rename_i fs hu
      obtain ⟨xs, n, rfl, rfl, hl, hlen, hf⟩ := DataW.trod_struct hu hx
      have key : ∀ (i : Nat) (f : Field), fs.toList[i]? = some f → ∃ y, xs[i]? = some y ∧ (∀ w' base' sp' hd', DataW.trod enc P w' base' sp' hd' n f.type ((cs.drop f.offset).take (P.cellsOf f.type)) = some y) ∧ y.2 = [] := by
        intro i f hi
        have hi' : fs[i]? = some f := by simpa using hi
        have e := hf i f hi'
        have hlt : i < xs.length := by rw [hlen]; exact (Array.getElem?_eq_some_iff.1 hi').1
        have hp : plainB P d f.type = true := List.all_eq_true.1 h f (List.mem_of_getElem? hi)
        rw [List.getElem?_eq_getElem hlt] at e
        obtain ⟨a, b⟩ := trod_plain d f.type n _ _ hp e
        exact ⟨xs[i], List.getElem?_eq_getElem hlt, a, b⟩
      refine ⟨fun w' base' sp' hd' => ChangeShapes.trod_struct_mk hu hl (mapM_some_of_get _ _ (by simpa using hlen) fun i f hi => ?_), ?_⟩
      · obtain ⟨y, h1, h2, _⟩ := key i f hi
        rw [h1]; exact h2 _ _ _ _
      · show xs.flatMap (·.2) = []
        rw [List.flatMap_eq_nil_iff]
        intro y hy
        obtain ⟨i, hi⟩ := List.getElem?_of_mem hy
        have hlt : i < fs.size := by rw [← hlen]; exact (List.getElem?_eq_some_iff.1 hi).1
        obtain ⟨y', h1, _, h3⟩ := key i fs[i] (by simp [hlt])
        rw [hi] at h1
        simp only [Option.some.injEq] at h1
        subst h1; exact h3
    · rename_i k e hu
      obtain ⟨xs, n, rfl, rfl, hl, hlen, hf⟩ := DataW.trod_array hu hx
      have key : ∀ (i : Nat), i < k → ∃ y, xs[i]? = some y ∧ (∀ w' base' sp' hd', DataW.trod enc P w' base' sp' hd' n e ((cs.drop (i * P.cellsOf e)).take (P.cellsOf e)) = some y) ∧ y.2 = [] := by
        intro i hi
        have e' := hf i hi
        have hlt : i < xs.length := by omega
        rw [List.getElem?_eq_getElem hlt] at e'
        obtain ⟨a, b⟩ := trod_plain d e n _ _ h e'
        exact ⟨xs[i], List.getElem?_eq_getElem hlt, a, b⟩
      refine ⟨fun w' base' sp' hd' => ?_, ?_⟩
      · have hm : (List.range k).mapM (fun i => DataW.trod enc P w' base' sp' hd' n e ((cs.drop (i * P.cellsOf e)).take (P.cellsOf e))) = some xs :=
          mapM_some_of_get _ _ (by simpa using hlen) fun i f hi => by
            have hik : i < k := by simpa using (List.getElem?_eq_some_iff.1 hi).1
            have : f = i := by
              have := (List.getElem?_eq_some_iff.1 hi).2
              simpa using this.symm
            subst this
            obtain ⟨y, h1, h2, _⟩ := key f hik
            rw [h1]; exact h2 _ _ _ _
        unfold DataW.trod
        rw [hu]
        split <;> simp_all
      · show xs.flatMap (·.2) = []
        rw [List.flatMap_eq_nil_iff]
        intro y hy
        obtain ⟨i, hi⟩ := List.getElem?_of_mem hy
        have hlt : i < k := by rw [← hlen]; exact (List.getElem?_eq_some_iff.1 hi).1
        obtain ⟨y', h1, _, h3⟩ := key i hlt
        rw [hi] at h1
        simp only [Option.some.injEq] at h1
        subst h1; exact h3
    · cases h

theorem trodAll_plain {d : Nat} : ∀ (ts : List TypeId) (vs : List Value) (ds : List (DataW H)) (p : List MemPlace), (ts.all (plainB P d)) = true → DataW.TrodAll enc P w base sp hd ts vs ds p →
    (∀ w' base' sp' hd', DataW.TrodAll enc P w' base' sp' hd' ts vs ds p) ∧ p = []
  | [], [], [], p, _, h => ⟨fun _ _ _ _ => h, h⟩
  | t :: ts, v :: vs, d' :: ds, p, hp, ⟨a, b, ⟨fuel, h1⟩, h2, h3⟩ => by
    simp only [List.all_cons, Bool.and_eq_true] at hp
    obtain ⟨k1, k2⟩ := trod_plain d t fuel _ _ hp.1 h1
    obtain ⟨k3, k4⟩ := trodAll_plain ts vs ds b hp.2 h2
    refine ⟨fun w' base' sp' hd' => ⟨a, b, ⟨fuel, k1 _ _ _ _⟩, k3 _ _ _ _, h3⟩, ?_⟩
    have k2 : a = [] := k2
    rw [h3, k2, k4]; rfl
  | [], _ :: _, _, _, _, h => h.elim
  | [], [], _ :: _, _, _, h => h.elim
  | _ :: _, [], _, _, _, h => h.elim
  | _ :: _, _ :: _, [], _, _, h => h.elim

theorem kept_of_same {w' : World} (h : Same (fun _ _ => False) w w') (may : MemPlace → Prop) : w.keptBut w' may := by
  refine ⟨h.io.1, h.io.2, fun i hi => ?_⟩
  cases ho : w.heap[i]? with
  | none => rw [Array.getElem?_eq_none_iff] at ho; omega
  | some o =>
    cases o with
    | cells c t fr =>
      obtain ⟨c', h1, h2, h3⟩ := h.cells i c t fr ho
      rw [h1]
      exact ⟨rfl, rfl, h2, fun j _ => h3 j (fun hx => hx)⟩
    | map es clock =>
      rw [h.obj i _ ho (fun c e fr hx => by cases hx)]
      exact Or.inr ⟨rfl, rfl⟩
    | _ =>
      rw [h.obj i _ ho (fun c e fr hx => by cases hx)]

/-- What a law's row says of a call that comes to true. -/
theorem post_law {f : Func} {s : ChangeSpec} {d : Nat} {W W' : World} {args : Array Value} {ds gs : List (DataW H)} {before : List MemPlace} {t : TypeId}
    (hW : DataW.Whole enc P f.params.toList s.vars false W args.toList ds gs before) (hv : s.vars = []) (hs : (s.fn H ds) = { results := [.lit (.bool true)], args := ds }) (hr : f.resultTypes = #[t]) (ht : P.underlying t = some .bool)
    (hp : (f.params.toList.all (plainB P d)) = true) (h : Same (fun _ _ => False) W W') : s.post enc P f false true false false W args (.bool true) W' := by
  have hW' := hW
  obtain ⟨p, q, hA, hV, rfl, _, _⟩ := hW
  rw [hv] at hV
  obtain ⟨rfl, rfl⟩ := ChangeShapes.trodVars_none hV
  obtain ⟨h1, rfl⟩ := trodAll_plain _ _ _ _ hp hA
  refine ⟨ds, [], [] ++ [], [], [], [], hW', ?_, ?_, ?_, kept_of_same h _, fun hx => by cases hx⟩
  · rw [List.append_nil, hs, hr]
    exact ⟨[], [], ⟨1, by simp [DataW.trod, Value.cells, ht]⟩, rfl, rfl⟩
  · rw [List.append_nil, hs]
    exact h1 _ _ _ _
  · rw [List.append_nil, hs, hv]; rfl

end

/-! ### Values of arguments -/
theorem okWide_int {P : Program} {w : World} {r : Reach} {b : Nat} {t : TypeId} {k : IntKind} {v : Value} (ht : P.underlying t = some (.int k)) (h : Value.okWide P w r b t v) : ∃ n, v = .int k n ∧ k.has n := by
  unfold Value.okWide at h
  rw [ht] at h
  simp only [Cell.okWide, Cell.ok, ht] at h
  split at h <;> simp_all
theorem okWide_bool {P : Program} {w : World} {r : Reach} {b : Nat} {t : TypeId} {v : Value} (ht : P.underlying t = some .bool) (h : Value.okWide P w r b t v) : ∃ x, v = .bool x := by
  unfold Value.okWide at h
  rw [ht] at h
  simp only [Cell.okWide, Cell.ok, ht] at h
  split at h <;> simp_all

theorem has_u {n : Int} (h : IntKind.u64.has n) : inU n := by
  simp [IntKind.has, IntKind.min, IntKind.max, IntKind.signed, IntKind.bits] at h
  unfold inU; omega
theorem has_i {n : Int} (h : IntKind.i64.has n) : inI n := by
  simp [IntKind.has, IntKind.min, IntKind.max, IntKind.signed, IntKind.bits] at h
  unfold inI; omega

inductive CK where
  | b
  | i (k : IntKind)

def good : CK → Value → Prop
  | .b, .bool _ => True
  | .i k, .int k' n => k' = k ∧ k.has n
  | _, _ => False

def Typed : List CK → List Value → Prop
  | [], [] => True
  | k :: ks, v :: vs => good k v ∧ Typed ks vs
  | _, _ => False

def ckOf (P : Program) (u : TypeId) : Option CK :=
  match P.underlying u with
  | some .bool => some .b
  | some (.int k) => some (.i k)
  | _ => none

theorem good_of {P : Program} {w : World} {r : Reach} {b : Nat} {u : TypeId} {v : Value} {k : CK} (hk : ckOf P u = some k) (h : Cell.okWide P w r b u v) : good k v := by
  unfold ckOf at hk
  unfold Cell.okWide Cell.ok at h
  split at hk
  · rename_i hu
    rw [hu] at h
    cases hk
    cases v <;> simp_all [good]
  · rename_i j hu
    rw [hu] at h
    cases hk
    cases v <;> simp_all [good]
  · cases hk

theorem typed_of : ∀ (ks : List CK) (vs : List Value), vs.length = ks.length → (∀ (i : Nat) (v : Value) (k : CK), vs[i]? = some v → ks[i]? = some k → good k v) → Typed ks vs
  | [], [], _, _ => trivial
  | [], _ :: _, h, _ => by simp at h
  | _ :: _, [], h, _ => by simp at h
  | k :: ks, v :: vs, h, hg => ⟨hg 0 v k rfl rfl, typed_of ks vs (by simpa using h) fun i v k h1 h2 => hg (i + 1) v k h1 h2⟩

theorem typed_row {P : Program} {w : World} {r : Reach} {b : Nat} {t : TypeId} {fs : Array Field} {v : Value} {ts : List TypeId} {ks : List CK} (hu : P.underlying t = some (.struct fs)) (hts : P.cellTypes P.depth t = some ts) (hk : ts.map (ckOf P) = ks.map some) (hl : P.cellsOf t = ks.length)
    (h : Value.okWide P w r b t v) : ∃ cs : List Value, v = .agg cs.toArray ∧ Typed ks cs := by
  unfold Value.okWide at h
  rw [hu] at h
  obtain ⟨cs, rfl, hsz, ts', h1, _, h3⟩ := h
  rw [hts] at h1
  cases h1
  have hlen : ts.length = ks.length := by simpa using congrArg List.length hk
  refine ⟨cs.toList, rfl, typed_of _ _ (by rw [← hl, ← hsz]; simp) fun i x k hx hkx => ?_⟩
  have hi : i < ks.length := (List.getElem?_eq_some_iff.1 hkx).1
  obtain ⟨u, h4, h5⟩ := h3 i x (by simpa using hx)
  rw [hlen, Nat.mod_eq_of_lt hi] at h4
  refine good_of ?_ h5
  have := congrArg (fun l => l[i]?) hk
  simp only [List.getElem?_map, h4, hkx, Option.map_some] at this
  exact Option.some.inj this

/-! ### Capabilities, harts -/
structure CTy (c : Cap) : Prop where
  perms : inI c.perms
  type : inI c.type
  mode : inI c.mode
  e : inI c.e
  b : inI c.b
  t : inI c.t
  addr : inU c.addr

def capK : List CK := [.b, .i .i64, .i .i64, .i .i64, .i .i64, .i .i64, .i .i64, .b, .i .u64]

theorem typed_bool {ks : List CK} {vs : List Value} (h : Typed (.b :: ks) vs) : ∃ x vs', vs = .bool x :: vs' ∧ Typed ks vs' := by
  match vs, h with
  | .bool x :: vs', ⟨_, h2⟩ => exact ⟨x, vs', rfl, h2⟩
theorem typed_u {ks : List CK} {vs : List Value} (h : Typed (.i .u64 :: ks) vs) : ∃ n vs', vs = .int .u64 n :: vs' ∧ inU n ∧ Typed ks vs' := by
  match vs, h with
  | .int k n :: vs', ⟨⟨h0, h1⟩, h2⟩ => subst h0; exact ⟨n, vs', rfl, has_u h1, h2⟩
theorem typed_i {ks : List CK} {vs : List Value} (h : Typed (.i .i64 :: ks) vs) : ∃ n vs', vs = .int .i64 n :: vs' ∧ inI n ∧ Typed ks vs' := by
  match vs, h with
  | .int k n :: vs', ⟨⟨h0, h1⟩, h2⟩ => subst h0; exact ⟨n, vs', rfl, has_i h1, h2⟩

theorem typed_cap {ks : List CK} {vs : List Value} (h : Typed (capK ++ ks) vs) : ∃ c vs', vs = capCells c ++ vs' ∧ CTy c ∧ Typed ks vs' := by
  obtain ⟨a, _, rfl, q1⟩ := typed_bool h
  obtain ⟨b, _, rfl, hb, q2⟩ := typed_i q1
  obtain ⟨c, _, rfl, hc, q3⟩ := typed_i q2
  obtain ⟨d, _, rfl, hd, q4⟩ := typed_i q3
  obtain ⟨e, _, rfl, he, q5⟩ := typed_i q4
  obtain ⟨f, _, rfl, hf, q6⟩ := typed_i q5
  obtain ⟨g, _, rfl, hg, q7⟩ := typed_i q6
  obtain ⟨x, _, rfl, q8⟩ := typed_bool q7
  obtain ⟨i, _, rfl, hi, q9⟩ := typed_u q8
  exact ⟨⟨a, b, c, d, e, f, g, x, i⟩, _, rfl, ⟨hb, hc, hd, he, hf, hg, hi⟩, q9⟩

theorem typed_caps : ∀ (n : Nat) {ks : List CK} {vs : List Value}, Typed ((List.replicate n capK).flatten ++ ks) vs → ∃ (f : Nat → Cap) (vs' : List Value), vs = ((List.range n).flatMap fun i => capCells (f i)) ++ vs' ∧ (∀ i, i < n → CTy (f i)) ∧ Typed ks vs'
  | 0, ks, vs, h => ⟨fun _ => default, vs, rfl, fun i hi => by omega, h⟩
  | n + 1, ks, vs, h => by
    rw [List.replicate_succ, List.flatten_cons, List.append_assoc] at h
    obtain ⟨c, vs1, rfl, hc, q1⟩ := typed_cap h
    obtain ⟨f, vs2, rfl, hf, q2⟩ := typed_caps n q1
    refine ⟨fun i => match i with | 0 => c | i + 1 => f i, vs2, ?_, fun i hi => ?_, q2⟩
    · rw [List.range_succ_eq_map, List.flatMap_cons, List.flatMap_map, List.append_assoc]
    · cases i with
      | zero => exact hc
      | succ i => exact hf i (by omega)

/-- A hart whose numbers are of their kinds. -/
structure HTy (h : Hart) : Prop where
  x : ∀ i, i < 32 → CTy (h.x i)
  pcc : CTy h.pcc
  ddc : CTy h.ddc
  stcc : CTy h.stcc
  stdc : CTy h.stdc
  sscr : CTy h.sscr
  sepcc : CTy h.sepcc
  mtcc : CTy h.mtcc
  mtdc : CTy h.mtdc
  mscr : CTy h.mscr
  mepcc : CTy h.mepcc
  priv : inI h.priv
  mstatus : inU h.mstatus
  medeleg : inU h.medeleg
  mideleg : inU h.mideleg
  mie : inU h.mie
  mip : inU h.mip
  mscratch : inU h.mscratch
  sscratch : inU h.sscratch
  mcause : inU h.mcause
  scause : inU h.scause
  mtval : inU h.mtval
  stval : inU h.stval
  satp : inU h.satp
  mcounteren : inU h.mcounteren
  scounteren : inU h.scounteren
  cycle : inU h.cycle
  instret : inU h.instret

def hartK : List CK := (List.replicate 32 capK).flatten ++ (capK ++ (capK ++ (capK ++ (capK ++ (capK ++ (capK ++ (capK ++ (capK ++ (capK ++ (capK ++
  [.i .i64, .i .u64, .i .u64, .i .u64, .i .u64, .i .u64, .i .u64, .i .u64, .i .u64, .i .u64, .i .u64, .i .u64, .i .u64, .i .u64, .i .u64, .i .u64, .i .u64, .b]))))))))))

theorem typed_hart {vs : List Value} (h : Typed hartK vs) : ∃ x : Hart, vs = hartCells x ∧ HTy x := by
  obtain ⟨f, _, rfl, hx, q1⟩ := typed_caps 32 h
  obtain ⟨c0, _, rfl, h0, q2⟩ := typed_cap q1
  obtain ⟨c1, _, rfl, h1, q3⟩ := typed_cap q2
  obtain ⟨c2, _, rfl, h2, q4⟩ := typed_cap q3
  obtain ⟨c3, _, rfl, h3, q5⟩ := typed_cap q4
  obtain ⟨c4, _, rfl, h4, q6⟩ := typed_cap q5
  obtain ⟨c5, _, rfl, h5, q7⟩ := typed_cap q6
  obtain ⟨c6, _, rfl, h6, q8⟩ := typed_cap q7
  obtain ⟨c7, _, rfl, h7, q9⟩ := typed_cap q8
  obtain ⟨c8, _, rfl, h8, q10⟩ := typed_cap q9
  obtain ⟨c9, _, rfl, h9, q11⟩ := typed_cap q10
  obtain ⟨p, _, rfl, hp, q12⟩ := typed_i q11
  obtain ⟨k1, _, rfl, g1, q13⟩ := typed_u q12
  obtain ⟨k2, _, rfl, g2, q14⟩ := typed_u q13
  obtain ⟨k3, _, rfl, g3, q15⟩ := typed_u q14
  obtain ⟨k4, _, rfl, g4, q16⟩ := typed_u q15
  obtain ⟨k5, _, rfl, g5, q17⟩ := typed_u q16
  obtain ⟨k6, _, rfl, g6, q18⟩ := typed_u q17
  obtain ⟨k7, _, rfl, g7, q19⟩ := typed_u q18
  obtain ⟨k8, _, rfl, g8, q20⟩ := typed_u q19
  obtain ⟨k9, _, rfl, g9, q21⟩ := typed_u q20
  obtain ⟨k10, _, rfl, g10, q22⟩ := typed_u q21
  obtain ⟨k11, _, rfl, g11, q23⟩ := typed_u q22
  obtain ⟨k12, _, rfl, g12, q24⟩ := typed_u q23
  obtain ⟨k13, _, rfl, g13, q25⟩ := typed_u q24
  obtain ⟨k14, _, rfl, g14, q26⟩ := typed_u q25
  obtain ⟨k15, _, rfl, g15, q27⟩ := typed_u q26
  obtain ⟨k16, _, rfl, g16, q28⟩ := typed_u q27
  obtain ⟨w, vs', rfl, q29⟩ := typed_bool q28
  have : vs' = [] := by cases vs' <;> first | rfl | exact q29.elim
  subst this
  exact ⟨⟨f, c0, c1, c2, c3, c4, c5, c6, c7, c8, c9, p, k1, k2, k3, k4, k5, k6, k7, k8, k9, k10, k11, k12, k13, k14, k15, k16, w⟩, rfl,
    ⟨hx, h0, h1, h2, h3, h4, h5, h6, h7, h8, h9, hp, g1, g2, g3, g4, g5, g6, g7, g8, g9, g10, g11, g12, g13, g14, g15, g16⟩⟩

/-! ### A statement's call -/
theorem canA_wf {R : Rows} {nx : Nat → Prop} : ∀ (l : List Pa) (x : Ins l) (k : Nat), cnt l = 0 → ∀ a ∈ canA l x k, wf R nx a
  | [], _, _, _, a, h => by cases h
  | .v s :: r, x, k, h, a, ha => by
    rcases List.mem_cons.1 ha with rfl | ha
    · exact s.av_wf x.1
    · exact canA_wf r x.2 k h a ha
  | .p _ :: _, _, _, h, _, _ => by simp [cnt] at h

theorem canA_len : ∀ (l : List Pa) (x : Ins l) (k : Nat), (canA l x k).length = l.length
  | [], _, _ => rfl
  | .v _ :: r, x, k => by simp only [canA, List.length_cons, canA_len r x.2 k]
  | .p _ :: r, x, k => by simp only [canA, List.length_cons, canA_len r x.2 (k + 1)]

/-- A law's call, by its own run. -/
theorem law_calls {P : Program} {C : Ctx} (hC : CtxOk P C) (hmix : P.follows .mixedOrders = true) {g : FuncId} {fn : Func} {l : List Pa} (hf : FnIs P C g fn l.length) (hl : cnt l = 0) (x : Ins l) (β : Bt)
    (ht : (runT C fn l (.one .bo) x).holds fun r => r.1 = true) (w : World) : Calls P g ((canA l x 0).map (toV C.R β)).toArray w fun e w' => e = .returned (.bool true) ∧ Same (fun _ _ => False) w w' := by
  obtain ⟨c, hb, hok, hB⟩ := hf.body
  have hR₀ : Rel C.R β (objM l (objsOf l x) 0) (bel (cnt l)) w :=
    ⟨fun y hy => absurd hy (by unfold bel; omega), fun y _ => (by rw [objM_low l _ 0 y (by omega)]; rfl), fun a b ha => absurd ha (by unfold bel; omega)⟩
  unfold runT at ht
  refine (fnEv_calls hC hmix hf.at_ hb hok hB (by rw [canA_len]; exact hf.args) hR₀ (canA_wf l x 0 hl) ht).mono fun e w' ⟨o, m', nx', β', k1, k2, k3, k4⟩ => ?_
  cases o with
  | pan v => exact k1.elim
  | ret v =>
    obtain ⟨k5, k6, rfl⟩ := k4
    simp only [] at k1
    split at k1
    · rename_i y z hy hz
      have k1 : y = true := k1
      subst k1
      refine ⟨?_, k3.same.mono fun b j _ hx => ?_⟩
      · rw [Re.rd_toV hy]; rfl
      · obtain ⟨i, hi, _⟩ := hx
        unfold bel at hi; omega
    · exact k1.elim

end Go.Mir
