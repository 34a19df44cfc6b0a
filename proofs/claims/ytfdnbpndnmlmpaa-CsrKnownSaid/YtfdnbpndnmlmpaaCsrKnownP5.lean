/-
A part of the proof: The mirror, part 26: what a tree needs, and what it comes to; 'math/bits.Add64'; small facts of numbers.
-/
import Derived.Laws.Externs
import Derived.Test.YtfdnbpndnmlmpaaCsrKnownP4

set_option linter.unusedVariables false
set_option linter.unusedSimpArgs false

namespace Go.Mir

/-- What a tree needs, on each of its ways. -/
def T.ok {α : Type} : T α → Prop
  | .ret _ => True
  | .br b t e => (b = true → t.ok) ∧ (b = false → e.ok)
  | .need p t => p ∧ t.ok
  | .fail _ => False

theorem T.holds_ok {α : Type} [Inhabited α] : ∀ {t : T α}, t.ok → t.holds fun r => r = t.val
  | .ret _, _ => rfl
  | .br b t e, h => by
    refine ⟨fun hb => ?_, fun hb => ?_⟩
    · have := T.holds_ok (h.1 hb); simp only [T.val, hb, cond_true]; exact this
    · have := T.holds_ok (h.2 hb); simp only [T.val, hb, cond_false]; exact this
  | .need _ t, h => ⟨h.1, T.holds_ok h.2⟩
  | .fail _, h => h.elim

/-! ### 'math/bits.Add64' -/
@[irreducible] def addLo (a b c : Int) : Int := (a + b + c) % 18446744073709551616
@[irreducible] def addHi (a b c : Int) : Int := (a + b + c) / 18446744073709551616
@[irreducible] def addOk (a b c : Int) : Prop := 0 ≤ a ∧ 0 ≤ b ∧ 0 ≤ c ∧ c ≤ 1

def add64Spec (R : Rows) : PSpec := fun args _ =>
  match args with
  | [a, b, c] =>
    match asInt R .u64 a, asInt R .u64 b, asInt R .u64 c with
    | some a, some b, some c => some ([addOk a b c], .tup (.cons (.int .u64 (addLo a b c)) (.cons (.int .u64 (addHi a b c)) .nil)))
    | _, _, _ => none
  | _ => none

theorem asInt_toV {R : Rows} {β : Bt} {k : IntKind} {v : AV} {n : Int} (h : asInt R k v = some n) : toV R β v = .int k n := by
  obtain ⟨a, _, c⟩ := asInt_eq (β := β) h
  unfold toV tov; rw [a, c]; rfl

theorem add64_sound {P : Program} {R : Rows} {g : FuncId} {fn : Func} (hf : P.funcs[g]? = some fn) (hn : (fn.name == "runtime.NumGoroutine") = false) (hb : fn.body.isNone = true) (hx : Extern.findNext fn = none) (he : Extern.find fn = some add64Entry) :
    PSound P R g (add64Spec R) := by
  refine ⟨fun args m ps v h hp β nx w hR hw => ?_⟩
  unfold add64Spec at h
  split at h
  · rename_i a b c
    split at h
    · rename_i x y z h1 h2 h3
      simp only [Option.some.injEq, Prod.mk.injEq] at h
      obtain ⟨rfl, rfl⟩ := h
      have hok := hp _ (List.mem_singleton.2 rfl)
      unfold addOk at hok
      refine ⟨⟨trivial, trivial, trivial⟩, rfl, .inl ?_⟩
      simp only [List.map_cons, List.map_nil, asInt_toV (β := β) h1, asInt_toV (β := β) h2, asInt_toV (β := β) h3]
      rw [run_callFunc_extern hf hn hb hx he]
      have := run_add64 (P := P) x y z hok.1 hok.2.1 hok.2.2.1 hok.2.2.2 w
      rw [show (add64Entry [Value.int .u64 x, .int .u64 y, .int .u64 z].toArray).run P w = _ from this]
      show Result.ok (Next.value _) w = Result.ok (Next.value (Value.tuple (vals R β (.cons (.int .u64 (addLo x y z)) (.cons (.int .u64 (addHi x y z)) .nil))).toArray)) w
      unfold addLo addHi
      rfl
    · cases h
  · cases h

/-! ### Numbers -/
theorem u64_wrap (n : Int) : IntKind.u64.wrap n = n % 18446744073709551616 := by
  simp [IntKind.wrap, IntKind.signed, IntKind.bits]

theorem nneg_cv (n : Int) : nneg (iCv .u64 n) := by unfold nneg iCv; rw [u64_wrap]; omega

end Go.Mir

namespace Go.Mir

def inl (C : Ctx) (fn : Func) : Spec := fun _ args m nx K =>
  match Nat.ble args.length fn.ntmps with
  | true => fnEv C fn args m nx K
  | false => .fail 96

theorem inl_sound {P : Program} {C : Ctx} (hC : CtxOk P C) (hmix : P.follows .mixedOrders = true) {g : FuncId} {fn : Func} (hf : FnIs P C g fn 0) : SSound P C.R g (inl C fn) := by
  refine ⟨hf.enters, fun α as m nx K Q h β w hR hw => ?_⟩
  unfold inl at h
  split at h
  · rename_i hle
    obtain ⟨c, hb, hok, hB⟩ := hf.body
    exact fnEv_calls hC hmix hf.at_ hb hok hB (ble_le hle) hR hw h
  · exact h.elim

end Go.Mir

namespace Go.Mir

/-- What a tree needs, on those of its ways that need something. -/
def T.req {α : Type} : T α → Prop
  | .ret _ => True
  | .br b t e =>
    match t.clean, e.clean with
    | true, true => True
    | true, false => b = false → e.req
    | false, true => b = true → t.req
    | false, false => (b = true → t.req) ∧ (b = false → e.req)
  | .need p t => match t.clean with | true => p | false => p ∧ t.req
  | .fail _ => False

theorem T.ok_clean {α : Type} : ∀ {t : T α}, t.clean = true → t.ok
  | .ret _, _ => trivial
  | .br b t e, h => by
    simp only [T.clean, Bool.and_eq_true] at h
    exact ⟨fun _ => T.ok_clean h.1, fun _ => T.ok_clean h.2⟩
  | .need .., h => by cases h
  | .fail _, h => by cases h

theorem T.ok_req {α : Type} : ∀ {t : T α}, t.req → t.ok
  | .ret _, _ => trivial
  | .br b t e, h => by
    simp only [T.req] at h
    split at h
    · rename_i h1 h2; exact ⟨fun _ => T.ok_clean h1, fun _ => T.ok_clean h2⟩
    · rename_i h1 h2; exact ⟨fun _ => T.ok_clean h1, fun hb => T.ok_req (h hb)⟩
    · rename_i h1 h2; exact ⟨fun hb => T.ok_req (h hb), fun _ => T.ok_clean h2⟩
    · exact ⟨fun hb => T.ok_req (h.1 hb), fun hb => T.ok_req (h.2 hb)⟩
  | .need p t, h => by
    simp only [T.req] at h
    split at h
    · rename_i h1; exact ⟨h, T.ok_clean h1⟩
    · exact ⟨h.1, T.ok_req h.2⟩
  | .fail _, h => h.elim

theorem T.req_clean {α : Type} {t : T α} (h : t.clean = true) : t.ok := T.ok_clean h

instance Sh.inh : (s : Sh) → Inhabited s.D
  | .bo => ⟨false⟩
  | .nu _ => ⟨(0 : Int)⟩
  | .cap => inferInstanceAs (Inhabited Cap)
  | .trap => inferInstanceAs (Inhabited Trap)
  | .rng => inferInstanceAs (Inhabited Rng)
  | .hart => ⟨⟨fun _ => default, default, default, default, default, default, default, default, default, default, default, 0, 0, 0, 0, 0, 0, 0, 0, 0, 0, 0, 0, 0, 0, 0, 0, 0, false⟩⟩
  | .en => ⟨()⟩
  | .pr a b => ⟨((Sh.inh a).default, (Sh.inh b).default)⟩
  | .rc f => Sh.inh f

instance Tup.inh : (l : List Sh) → Inhabited (Tup l)
  | [] => ⟨()⟩
  | s :: r => ⟨((Sh.inh s).default, (Tup.inh r).default)⟩

instance Re.inh : (r : Re) → Inhabited r.D
  | .one s => Sh.inh s
  | .tu l => Tup.inh l

instance Objs.inh : (l : List Pa) → Inhabited (Objs l)
  | [] => ⟨()⟩
  | .v _ :: r => Objs.inh r
  | .p s :: r => ⟨((Sh.inh s).default, (Objs.inh r).default)⟩

/-- What a function gives. -/
def fnVal (C : Ctx) (fn : Func) (l : List Pa) (re : Re) (x : Ins l) : re.D × Objs l := (runT C fn l re x).val

/-- A part of what a tree comes to. -/
def T.part {α β : Type} [Inhabited α] (f : α → β) : T α → β
  | .ret a => f a
  | .br b t e => bif b then t.part f else e.part f
  | .need _ t => t.part f
  | .fail _ => f default

theorem T.part_eq {α β : Type} [Inhabited α] (f : α → β) : ∀ t : T α, t.part f = f t.val
  | .ret _ => rfl
  | .br b t e => by
    simp only [T.part, T.val, T.part_eq f t, T.part_eq f e]
    cases b <;> rfl
  | .need _ t => T.part_eq f t
  | .fail _ => rfl

theorem objs_one : ∀ (l : List Pa), cnt l = 0 → ∀ a b : Objs l, a = b
  | [], _, _, _ => rfl
  | .v _ :: r, h, a, b => objs_one r h a b
  | .p _ :: _, h, _, _ => by simp [cnt] at h

/-- A function of numbers and records alone. -/
theorem pure_sound {P : Program} {C : Ctx} (hC : CtxOk P C) (hmix : P.follows .mixedOrders = true) {g : FuncId} {fn : Func} {l : List Pa} {re : Re} {pre : Ins l → List Prop} {f : Ins l → re.D} (hl : cnt l = 0) (hf : FnIs P C g fn l.length)
    (hv : ∀ x, (runT C fn l re x).part Prod.fst = f x) (ht : ∀ x : Ins l, (∀ p ∈ pre x, p) → (runT C fn l re x).ok) : PSound P C.R g (pspec C.R l re pre f) :=
  pspec_sound hC hmix hf fun x hx => T.holds_mono (fun r hr => by
    subst hr
    have h1 := hv x
    rw [T.part_eq] at h1
    exact Prod.ext h1 (objs_one l hl _ _)) (T.holds_ok (ht x hx))

/-- A function that is led to records and leaves them as they are. -/
theorem look_sound {P : Program} {C : Ctx} (hC : CtxOk P C) (hmix : P.follows .mixedOrders = true) {g : FuncId} {fn : Func} {l : List Pa} {re : Re} {pre : Ins l → List Prop} {f : Ins l → re.D} (hf : FnIs P C g fn l.length)
    (hv : ∀ x, (∀ p ∈ pre x, p) → fnVal C fn l re x = (f x, objsOf l x)) (ht : ∀ x : Ins l, (∀ p ∈ pre x, p) → (runT C fn l re x).ok) : PSound P C.R g (pspec C.R l re pre f) :=
  pspec_sound hC hmix hf fun x hx => T.holds_mono (fun r hr => by subst hr; exact hv x hx) (T.holds_ok (ht x hx))

/-- A function that may change the records that it is led to. -/
theorem mut_sound {P : Program} {C : Ctx} (hC : CtxOk P C) (hmix : P.follows .mixedOrders = true) {g : FuncId} {fn : Func} {l : List Pa} {re : Re} {pre : Ins l → List Prop} {F : Ins l → re.D × Objs l} (hf : FnIs P C g fn l.length)
    (hv : ∀ x, (∀ p ∈ pre x, p) → fnVal C fn l re x = F x) (ht : ∀ x : Ins l, (∀ p ∈ pre x, p) → (runT C fn l re x).ok) : SSound P C.R g (mspec C.R l re pre F) :=
  mspec_sound hC hmix hf fun x hx => T.holds_mono (fun r hr => by subst hr; exact hv x hx) (T.holds_ok (ht x hx))

/-- A tree with a part of what it comes to another one. -/
def T.setSnd {α β : Type} (z : β) : T (α × β) → T (α × β)
  | .ret a => .ret (a.1, z)
  | .br b t e => .br b (t.setSnd z) (e.setSnd z)
  | .need p t => .need p (t.setSnd z)
  | .fail n => .fail n

theorem T.setSnd_holds {α β : Type} {z : β} : ∀ {t : T (α × β)} {Q : α × β → Prop}, (t.setSnd z).holds Q → (t.setSnd z).holds fun r => Q r ∧ r.2 = z
  | .ret _, _, h => ⟨h, rfl⟩
  | .br _ _ _, _, h => ⟨fun hb => T.setSnd_holds (h.1 hb), fun hb => T.setSnd_holds (h.2 hb)⟩
  | .need _ _, _, h => ⟨h.1, T.setSnd_holds h.2⟩
  | .fail _, _, h => h.elim

/-- A function that is led to records and leaves them as they are: each of its ends says so. -/
theorem see_sound {P : Program} {C : Ctx} (hC : CtxOk P C) (hmix : P.follows .mixedOrders = true) {g : FuncId} {fn : Func} {l : List Pa} {re : Re} {pre : Ins l → List Prop} {f : Ins l → re.D} (hf : FnIs P C g fn l.length)
    (hk : ∀ x, runT C fn l re x = (runT C fn l re x).setSnd (objsOf l x)) (hv : ∀ x, (runT C fn l re x).part Prod.fst = f x) (ht : ∀ x : Ins l, (∀ p ∈ pre x, p) → (runT C fn l re x).ok) : PSound P C.R g (pspec C.R l re pre f) :=
  pspec_sound hC hmix hf fun x hx => by
    have h := T.holds_ok (ht x hx)
    rw [hk x] at h ⊢
    refine T.holds_mono (fun r hr => ?_) (T.setSnd_holds h)
    obtain ⟨h1, h2⟩ := hr
    have h3 := hv x
    rw [T.part_eq, hk x, ← h1] at h3
    exact Prod.ext h3 h2

end Go.Mir

namespace Go.Mir

theorem iLe_t {a b : Int} : iLe a b = true ↔ a ≤ b := by unfold iLe; simp
theorem iLe_f {a b : Int} : iLe a b = false ↔ b < a := by unfold iLe; simp
theorem iLt_t {a b : Int} : iLt a b = true ↔ a < b := by unfold iLt; simp
theorem iLt_f {a b : Int} : iLt a b = false ↔ b ≤ a := by unfold iLt; simp
theorem iEq_t {a b : Int} : iEq a b = true ↔ a = b := by unfold iEq; simp
theorem iEq_f {a b : Int} : iEq a b = false ↔ a ≠ b := by unfold iEq; simp
theorem bNot_t {a : Bool} : bNot a = true ↔ a = false := by unfold bNot; simp
theorem bNot_f {a : Bool} : bNot a = false ↔ a = true := by unfold bNot; simp
theorem bNot_eq (a : Bool) : bNot a = !a := by unfold bNot; rfl
theorem bAnd_eq (a b : Bool) : bAnd a b = (a && b) := by unfold bAnd; rfl
theorem bEq_eq (a b : Bool) : bEq a b = (a == b) := by unfold bEq; rfl
theorem bIf_eq (c a b : Bool) : bIf c a b = bif c then a else b := by unfold bIf; rfl
theorem iIf_eq (c : Bool) (a b : Int) : iIf c a b = bif c then a else b := by unfold iIf; rfl
theorem nneg_iff {a : Int} : nneg a ↔ 0 ≤ a := by unfold nneg; exact Iff.rfl
theorem nz_iff {a : Int} : nz a ↔ a ≠ 0 := by unfold nz; exact Iff.rfl
theorem inB_iff {i : Int} {n : Nat} : inB i n ↔ 0 ≤ i ∧ i < n := by unfold inB; exact Iff.rfl
theorem ltN_iff {a b : Nat} : ltN a b ↔ a < b := by unfold ltN; exact Iff.rfl
theorem leN_iff {a b : Nat} : leN a b ↔ a ≤ b := by unfold leN; exact Iff.rfl
theorem toN_eq (a : Int) : toN a = a.toNat := by unfold toN; rfl
theorem addOk_iff {a b c : Int} : addOk a b c ↔ 0 ≤ a ∧ 0 ≤ b ∧ 0 ≤ c ∧ c ≤ 1 := by unfold addOk; exact Iff.rfl

theorem i64_wrap {n : Int} (h : -9223372036854775808 ≤ n) (h' : n < 9223372036854775808) : IntKind.i64.wrap n = n := by
  simp only [IntKind.wrap, IntKind.signed, IntKind.bits]
  simp
  omega

theorem iAdd_u (a b : Int) : iAdd .u64 a b = (a + b) % 18446744073709551616 := by unfold iAdd; exact u64_wrap _
theorem iSub_u (a b : Int) : iSub .u64 a b = (a - b) % 18446744073709551616 := by unfold iSub; exact u64_wrap _
theorem iMul_u (a b : Int) : iMul .u64 a b = (a * b) % 18446744073709551616 := by unfold iMul; exact u64_wrap _
theorem iCv_u (a : Int) : iCv .u64 a = a % 18446744073709551616 := by unfold iCv; exact u64_wrap _
theorem iAdd_i {a b : Int} (h : -9223372036854775808 ≤ a + b) (h' : a + b < 9223372036854775808) : iAdd .i64 a b = a + b := by unfold iAdd; exact i64_wrap h h'
theorem iSub_i {a b : Int} (h : -9223372036854775808 ≤ a - b) (h' : a - b < 9223372036854775808) : iSub .i64 a b = a - b := by unfold iSub; exact i64_wrap h h'
theorem iMul_i {a b : Int} (h : -9223372036854775808 ≤ a * b) (h' : a * b < 9223372036854775808) : iMul .i64 a b = a * b := by unfold iMul; exact i64_wrap h h'
theorem iCv_i {a : Int} (h : -9223372036854775808 ≤ a) (h' : a < 9223372036854775808) : iCv .i64 a = a := by unfold iCv; exact i64_wrap h h'

/-- What is in a number's kind. -/
def inU (n : Int) : Prop := 0 ≤ n ∧ n < 18446744073709551616
def inI (n : Int) : Prop := -9223372036854775808 ≤ n ∧ n < 9223372036854775808

theorem wrap_u (n : Int) : inU (IntKind.u64.wrap n) := by unfold inU; rw [u64_wrap]; omega
theorem wrap_i (n : Int) : inI (IntKind.i64.wrap n) := by
  unfold inI
  simp only [IntKind.wrap, IntKind.signed, IntKind.bits]
  simp
  omega

theorem inU_add (a b : Int) : inU (iAdd .u64 a b) := by unfold iAdd; exact wrap_u _
theorem inU_sub (a b : Int) : inU (iSub .u64 a b) := by unfold iSub; exact wrap_u _
theorem inU_mul (a b : Int) : inU (iMul .u64 a b) := by unfold iMul; exact wrap_u _
theorem inU_and (a b : Int) : inU (iAnd .u64 a b) := by unfold iAnd; exact wrap_u _
theorem inU_or (a b : Int) : inU (iOr .u64 a b) := by unfold iOr; exact wrap_u _
theorem inU_xor (a b : Int) : inU (iXor .u64 a b) := by unfold iXor; exact wrap_u _
theorem inU_andNot (a b : Int) : inU (iAndNot .u64 a b) := by unfold iAndNot; exact wrap_u _
theorem inU_shl (a b : Int) : inU (iShl .u64 a b) := by unfold iShl; exact wrap_u _
theorem inU_cv (a : Int) : inU (iCv .u64 a) := by unfold iCv; exact wrap_u _
theorem inI_add (a b : Int) : inI (iAdd .i64 a b) := by unfold iAdd; exact wrap_i _
theorem inI_sub (a b : Int) : inI (iSub .i64 a b) := by unfold iSub; exact wrap_i _
theorem inI_and (a b : Int) : inI (iAnd .i64 a b) := by unfold iAnd; exact wrap_i _
theorem inI_or (a b : Int) : inI (iOr .i64 a b) := by unfold iOr; exact wrap_i _
theorem inI_cv (a : Int) : inI (iCv .i64 a) := by unfold iCv; exact wrap_i _
theorem inU_shr {a : Int} (h : inU a) (k : IntKind) (b : Int) : inU (iShr k a b) := by
  unfold iShr inU at *
  have hp : (0 : Int) < 2 ^ (min b.toNat k.bits) := Int.pow_pos (by decide)
  have h1 : (1 : Int) ≤ 2 ^ (min b.toNat k.bits) := hp
  refine ⟨Int.fdiv_nonneg h.1 (Int.le_of_lt hp), ?_⟩
  rw [Int.fdiv_eq_ediv_of_nonneg _ (Int.le_of_lt hp)]
  exact Int.lt_of_le_of_lt (Int.ediv_le_self _ h.1) h.2

end Go.Mir

namespace Go.Mir

/-- A number's bits, with those of a small mask. -/
theorem iAnd_i_bounds (a : Int) {m : Nat} (hm : m < 9223372036854775808) : 0 ≤ iAnd .i64 a (Int.ofNat m) ∧ iAnd .i64 a (Int.ofNat m) ≤ m := by
  unfold iAnd
  have h : (BitVec.ofInt IntKind.i64.bits a &&& BitVec.ofInt IntKind.i64.bits (Int.ofNat m)).toNat ≤ m := by
    rw [BitVec.toNat_and]
    refine Nat.le_trans Nat.and_le_right ?_
    show (BitVec.ofInt 64 (Int.ofNat m)).toNat ≤ m
    rw [BitVec.toNat_ofInt]
    simp only [Int.ofNat_eq_natCast]
    omega
  rw [i64_wrap (by omega) (by omega)]
  omega

end Go.Mir

namespace Go.Mir

/-- What such a function gives. -/
def ptS (C : Ctx) (fn : Func) : PSpec := fun args _ =>
  match args with
  | [.ptr i p] =>
    match fnEv C fn [.ptr i p] [] (i + 1) (fun o m _ => match o, m with | .ret v, [] => T.ret v | _, _ => .fail 97) with
    | .ret (.ptr j q) => (match Nat.beq j i with | true => some ([], .ptr j q) | false => none)
    | _ => none
  | _ => none

theorem ptS_sound {P : Program} {C : Ctx} (hC : CtxOk P C) (hmix : P.follows .mixedOrders = true) {g : FuncId} {fn : Func} (hf : FnIs P C g fn 1) : PSound P C.R g (ptS C fn) := by
  refine ⟨fun as m ps v h hp β nx w hR hw => ?_⟩
  unfold ptS at h
  split at h
  · rename_i i p
    split at h
    · rename_i j q he
      split at h
      · rename_i hj
        simp only [Option.some.injEq, Prod.mk.injEq] at h
        obtain ⟨rfl, rfl⟩ := h
        have hj := Nat.eq_of_beq_eq_true hj
        subst hj
        have hi : nx j := hw (.ptr j p) (by simp)
        obtain ⟨c, hb, hok, hB⟩ := hf.body
        have hR₀ : Rel C.R β [] (bel (j + 1)) w := ⟨fun y _ hu => (by cases hu), fun y _ => rfl, fun a b _ _ _ hu _ => (by cases hu)⟩
        have ht : (fnEv C fn [.ptr j p] [] (j + 1) (fun o m _ => match o, m with | .ret v, [] => T.ret v | _, _ => .fail 97)).holds fun r => r = .ptr j q := by rw [he]; rfl
        have := fnEv_calls hC hmix hf.at_ hb hok hB (by simpa using hf.args) hR₀ (fun a ha => by rw [List.mem_singleton.1 ha]; show j < j + 1; omega) ht
        refine ⟨hi, rfl, .inr ⟨_, _, hf.enters _ w, ?_⟩⟩
        refine this.mono fun e w' ⟨o, m', nx', β', k1, k2, k3, k4⟩ => ?_
        cases o with
        | pan v => exact k1.elim
        | ret v =>
          obtain ⟨k5, k6, rfl⟩ := k4
          cases m' with
          | cons a r => exact k1.elim
          | nil =>
            have k1 : v = .ptr j q := k1
            subst k1
            refine ⟨?_, k3.same.mono fun b j' hx => ?_⟩
            · rw [toV_congr (nx := bel (j + 1)) k3.alike (v := .ptr j q) (show j < j + 1 by omega)]
            · intro hx; obtain ⟨i', _, h1, _⟩ := hx; cases h1
      · cases h
    · cases h
  · cases h

end Go.Mir

namespace Go.Mir

theorem ofInt_toNat_u (a : Int) : (BitVec.ofInt 64 a).toNat = (a % 18446744073709551616).toNat := by
  rw [BitVec.toNat_ofInt]; rfl

theorem iAnd_u (a b : Int) : iAnd .u64 a b = (((a % 18446744073709551616).toNat &&& (b % 18446744073709551616).toNat : Nat) : Int) := by
  unfold iAnd
  show IntKind.u64.wrap (((BitVec.ofInt 64 a &&& BitVec.ofInt 64 b).toNat : Nat) : Int) = _
  rw [u64_wrap, BitVec.toNat_and, ofInt_toNat_u, ofInt_toNat_u]
  have h1 : (a % 18446744073709551616).toNat &&& (b % 18446744073709551616).toNat ≤ (a % 18446744073709551616).toNat := Nat.and_le_left
  generalize (a % 18446744073709551616).toNat &&& (b % 18446744073709551616).toNat = z at *
  omega

theorem iOr_u (a b : Int) : iOr .u64 a b = (((a % 18446744073709551616).toNat ||| (b % 18446744073709551616).toNat : Nat) : Int) := by
  unfold iOr
  show IntKind.u64.wrap (((BitVec.ofInt 64 a ||| BitVec.ofInt 64 b).toNat : Nat) : Int) = _
  rw [u64_wrap, BitVec.toNat_or, ofInt_toNat_u, ofInt_toNat_u]
  have h1 : (a % 18446744073709551616).toNat ||| (b % 18446744073709551616).toNat < 2 ^ 64 := Nat.or_lt_two_pow (by omega) (by omega)
  generalize (a % 18446744073709551616).toNat ||| (b % 18446744073709551616).toNat = z at *
  omega

theorem iXor_u (a b : Int) : iXor .u64 a b = (((a % 18446744073709551616).toNat ^^^ (b % 18446744073709551616).toNat : Nat) : Int) := by
  unfold iXor
  show IntKind.u64.wrap (((BitVec.ofInt 64 a ^^^ BitVec.ofInt 64 b).toNat : Nat) : Int) = _
  rw [u64_wrap, BitVec.toNat_xor, ofInt_toNat_u, ofInt_toNat_u]
  have h1 : (a % 18446744073709551616).toNat ^^^ (b % 18446744073709551616).toNat < 2 ^ 64 := Nat.xor_lt_two_pow (by omega) (by omega)
  generalize (a % 18446744073709551616).toNat ^^^ (b % 18446744073709551616).toNat = z at *
  omega

theorem mod_toNat_and (a : Int) (k : Nat) (hk : k ≤ 64) : (((a % 18446744073709551616).toNat &&& (2 ^ k - 1) : Nat) : Int) = a % 2 ^ k := by
  rw [Nat.and_two_pow_sub_one_eq_mod, Int.natCast_emod, Int.toNat_of_nonneg (by omega)]
  rw [show ((2 ^ k : Nat) : Int) = (2 : Int) ^ k by simp]
  refine Int.emod_emod_of_dvd _ ?_
  rw [show (18446744073709551616 : Int) = 2 ^ 64 by decide]
  exact ⟨2 ^ (64 - k), by rw [← Int.pow_add]; congr 1; omega⟩

/-- With a mask of the lowest bits. -/
theorem iAnd_u_low (a : Int) (k : Nat) (hk : k ≤ 64) {m : Int} (hm : m = ((2 ^ k - 1 : Nat) : Int)) : iAnd .u64 a m = a % 2 ^ k := by
  have hp : (2 : Nat) ^ k ≤ 2 ^ 64 := Nat.pow_le_pow_right (by decide) hk
  have hp' : 0 < (2 : Nat) ^ k := Nat.pow_pos (by decide)
  rw [iAnd_u, ← mod_toNat_and a k hk, hm, show ((2 ^ k - 1 : Nat) : Int) % 18446744073709551616 = ((2 ^ k - 1 : Nat) : Int) from Int.emod_eq_of_lt (by omega) (by omega), Int.toNat_natCast]

theorem iAnd_i_low (a : Int) (k : Nat) (hk : k ≤ 62) {m : Int} (hm : m = ((2 ^ k - 1 : Nat) : Int)) : iAnd .i64 a m = a % 2 ^ k := by
  have hp : (2 : Nat) ^ k ≤ 2 ^ 62 := Nat.pow_le_pow_right (by decide) hk
  have hp' : 0 < (2 : Nat) ^ k := Nat.pow_pos (by decide)
  unfold iAnd
  show IntKind.i64.wrap (((BitVec.ofInt 64 a &&& BitVec.ofInt 64 m).toNat : Nat) : Int) = _
  rw [BitVec.toNat_and, ofInt_toNat_u, ofInt_toNat_u]
  rw [← mod_toNat_and a k (by omega), hm, show ((2 ^ k - 1 : Nat) : Int) % 18446744073709551616 = ((2 ^ k - 1 : Nat) : Int) from Int.emod_eq_of_lt (by omega) (by omega), Int.toNat_natCast]
  have h1 : (a % 18446744073709551616).toNat &&& (2 ^ k - 1) ≤ 2 ^ k - 1 := Nat.and_le_right
  generalize (a % 18446744073709551616).toNat &&& (2 ^ k - 1) = z at *
  rw [i64_wrap (by omega) (by omega)]

theorem iShr_n (k : IntKind) (a : Int) (n : Nat) (hn : n ≤ k.bits) : iShr k a n = a / 2 ^ n := by
  unfold iShr
  rw [show min (Int.toNat (n : Int)) k.bits = n by simp only [Int.toNat_natCast]; omega]
  exact Int.fdiv_eq_ediv_of_nonneg _ (Int.le_of_lt (Int.pow_pos (by decide)))

theorem iShl_u (a : Int) (n : Nat) (hn : n ≤ 64) : iShl .u64 a n = (a * 2 ^ n) % 18446744073709551616 := by
  unfold iShl
  rw [show min (Int.toNat (n : Int)) IntKind.u64.bits = n by simp only [Int.toNat_natCast]; exact Nat.min_eq_left hn, u64_wrap]

theorem iShl_i (a : Int) (n : Nat) (hn : n ≤ 64) (h : -9223372036854775808 ≤ a * 2 ^ n) (h' : a * 2 ^ n < 9223372036854775808) : iShl .i64 a n = a * 2 ^ n := by
  unfold iShl
  rw [show min (Int.toNat (n : Int)) IntKind.i64.bits = n by simp only [Int.toNat_natCast]; exact Nat.min_eq_left hn, i64_wrap h h']

/-- Bits side by side. -/
theorem iOr_i_add (a : Int) (k : Nat) (b : Int) (ha : 0 ≤ a) (ha' : a < 2 ^ k) (hb : 0 ≤ b) (hs : a + b * 2 ^ k < 9223372036854775808) : iOr .i64 a (b * 2 ^ k) = a + b * 2 ^ k := by
  unfold iOr
  show IntKind.i64.wrap (((BitVec.ofInt 64 a ||| BitVec.ofInt 64 (b * 2 ^ k)).toNat : Nat) : Int) = _
  have hb' : 0 ≤ b * 2 ^ k := Int.mul_nonneg hb (Int.le_of_lt (Int.pow_pos (by decide)))
  rw [BitVec.toNat_or, ofInt_toNat_u, ofInt_toNat_u, Int.emod_eq_of_lt ha (by omega), Int.emod_eq_of_lt hb' (by omega)]
  obtain ⟨x, rfl⟩ := Int.eq_ofNat_of_zero_le ha
  obtain ⟨y, rfl⟩ := Int.eq_ofNat_of_zero_le hb
  have h1 : ((y : Int) * 2 ^ k).toNat = y * 2 ^ k := by
    rw [show ((y : Int) * 2 ^ k) = ((y * 2 ^ k : Nat) : Int) by simp, Int.toNat_natCast]
  have hx : x < 2 ^ k := by
    have : ((2 ^ k : Nat) : Int) = (2 : Int) ^ k := by simp
    omega
  have h2 : x ||| y * 2 ^ k = x + y * 2 ^ k := by
    rw [Nat.mul_comm, Nat.or_comm, ← Nat.two_pow_add_eq_or_of_lt hx]; omega
  rw [h1, Int.toNat_natCast, h2]
  rw [show ((x + y * 2 ^ k : Nat) : Int) = (x : Int) + y * 2 ^ k by simp]
  rw [i64_wrap (by omega) hs]

theorem iXor_bit {a : Int} (h : a = 0 ∨ a = 1) : iXor .u64 a 1 = 1 - a := by
  rcases h with rfl | rfl <;> (rw [iXor_u]; rfl)

theorem iRem_n {a : Int} (h : 0 ≤ a) (b : Int) : iRem a b = a % b := by
  unfold iRem; exact Int.tmod_eq_emod_of_nonneg h
theorem iQuo_i {a b : Int} (h : 0 ≤ a) (hb : 0 < b) (h' : a < 9223372036854775808) : iQuo .i64 a b = a / b := by
  unfold iQuo
  rw [Int.tdiv_eq_ediv_of_nonneg h]
  have h1 : 0 ≤ a / b := Int.ediv_nonneg h (Int.le_of_lt hb)
  have h2 : a / b ≤ a := Int.ediv_le_self _ h
  exact i64_wrap (by omega) (by omega)

end Go.Mir

namespace Go.Mir

theorem see_clean {P : Program} {C : Ctx} (hC : CtxOk P C) (hmix : P.follows .mixedOrders = true) {g : FuncId} {fn : Func} {l : List Pa} {re : Re} {f : Ins l → re.D} (hf : FnIs P C g fn l.length)
    (hk : ∀ x, runT C fn l re x = (runT C fn l re x).setSnd (objsOf l x)) (hv : ∀ x, (runT C fn l re x).part Prod.fst = f x) (ht : ∀ x : Ins l, (runT C fn l re x).clean = true) : PSound P C.R g (pspec C.R l re (fun _ => []) f) :=
  see_sound hC hmix hf hk hv fun x _ => T.ok_clean (ht x)

theorem mut_clean {P : Program} {C : Ctx} (hC : CtxOk P C) (hmix : P.follows .mixedOrders = true) {g : FuncId} {fn : Func} {l : List Pa} {re : Re} {F : Ins l → re.D × Objs l} (hf : FnIs P C g fn l.length)
    (hv : ∀ x, fnVal C fn l re x = F x) (ht : ∀ x : Ins l, (runT C fn l re x).clean = true) : SSound P C.R g (mspec C.R l re (fun _ => []) F) :=
  mut_sound hC hmix hf (fun x _ => hv x) fun x _ => T.ok_clean (ht x)

theorem pure_clean {P : Program} {C : Ctx} (hC : CtxOk P C) (hmix : P.follows .mixedOrders = true) {g : FuncId} {fn : Func} {l : List Pa} {re : Re} {f : Ins l → re.D} (hl : cnt l = 0) (hf : FnIs P C g fn l.length)
    (hv : ∀ x, (runT C fn l re x).part Prod.fst = f x) (ht : ∀ x : Ins l, (runT C fn l re x).clean = true) : PSound P C.R g (pspec C.R l re (fun _ => []) f) :=
  pure_sound hC hmix hl hf hv fun x _ => T.ok_clean (ht x)

end Go.Mir

namespace Go.Mir

def T.top {α : Type} : T α → Option Bool
  | .br b _ _ => some b
  | _ => none
def T.thn {α : Type} : T α → T α
  | .br _ t _ => t
  | t => t
def T.els {α : Type} : T α → T α
  | .br _ _ e => e
  | t => t
def T.sub {α : Type} : List Bool → T α → T α
  | [], t => t
  | true :: r, t => t.thn.sub r
  | false :: r, t => t.els.sub r

theorem T.holds_br {α : Type} {Q : α → Prop} {t : T α} {b : Bool} (hb : t.top = some b) (h1 : b = true → t.thn.holds Q) (h2 : b = false → t.els.holds Q) : t.holds Q := by
  cases t with
  | br c x y => simp only [T.top, Option.some.injEq] at hb; subst hb; exact ⟨h1, h2⟩
  | ret _ => cases hb
  | need _ _ => cases hb
  | fail _ => cases hb

theorem T.sub_snoc {α : Type} : ∀ (p : List Bool) (t : T α), t.sub (p ++ [true]) = (t.sub p).thn ∧ t.sub (p ++ [false]) = (t.sub p).els
  | [], t => ⟨rfl, rfl⟩
  | true :: r, t => T.sub_snoc r t.thn
  | false :: r, t => T.sub_snoc r t.els

/-- A tree's part, by the parts of it. -/
theorem T.holds_sub {α : Type} {Q : α → Prop} {t : T α} (p : List Bool) {b : Bool} (hb : (t.sub p).top = some b) (h1 : b = true → (t.sub (p ++ [true])).holds Q) (h2 : b = false → (t.sub (p ++ [false])).holds Q) : (t.sub p).holds Q :=
  T.holds_br hb (fun h => (T.sub_snoc p t).1 ▸ h1 h) (fun h => (T.sub_snoc p t).2 ▸ h2 h)

def T.mp {α β : Type} (f : α → β) : T α → T β
  | .ret a => .ret (f a)
  | .br b t e => .br b (t.mp f) (e.mp f)
  | .need p t => .need p (t.mp f)
  | .fail n => .fail n

theorem T.mp_holds {α β : Type} {f : α → β} {Q : β → Prop} : ∀ {t : T α}, t.holds (fun a => Q (f a)) → (t.mp f).holds Q
  | .ret _, h => h
  | .br _ _ _, h => ⟨fun hb => T.mp_holds (h.1 hb), fun hb => T.mp_holds (h.2 hb)⟩
  | .need _ _, h => ⟨h.1, T.mp_holds h.2⟩
  | .fail _, h => h.elim

/-- A function's contract from its tree, written with shared parts: led to records that it leaves as they are. -/
theorem txt_sound {P : Program} {C : Ctx} (hC : CtxOk P C) (hmix : P.follows .mixedOrders = true) {g : FuncId} {fn : Func} {l : List Pa} {re : Re} {pre : Ins l → List Prop} {f : Ins l → re.D} (G : Ins l → T re.D) (hf : FnIs P C g fn l.length)
    (hT : ∀ x, runT C fn l re x = (G x).mp fun r => (r, objsOf l x)) (hG : ∀ x : Ins l, (∀ p ∈ pre x, p) → (G x).holds fun r => r = f x) : PSound P C.R g (pspec C.R l re pre f) :=
  pspec_sound hC hmix hf fun x hx => by
    rw [hT x]
    exact T.mp_holds (T.holds_mono (fun r hr => by rw [hr]) (hG x hx))

/-- The same of a function that may change the records that it is led to. -/
theorem txt_mut {P : Program} {C : Ctx} (hC : CtxOk P C) (hmix : P.follows .mixedOrders = true) {g : FuncId} {fn : Func} {l : List Pa} {re : Re} {pre : Ins l → List Prop} {F : Ins l → re.D × Objs l} (G : Ins l → T (re.D × Objs l)) (hf : FnIs P C g fn l.length)
    (hT : ∀ x, runT C fn l re x = G x) (hG : ∀ x : Ins l, (∀ p ∈ pre x, p) → (G x).holds fun r => r = F x) : SSound P C.R g (mspec C.R l re pre F) :=
  mspec_sound hC hmix hf fun x hx => by rw [hT x]; exact hG x hx

theorem T.holds_of {α : Type} [Inhabited α] {t : T α} {a : α} (h : t.clean = true) (hv : t.val = a) : t.holds fun r => r = a := hv ▸ T.holds_clean h

theorem val_fst {C : Ctx} {fn : Func} {l : List Pa} {re : Re} (x : Ins l) : (runT C fn l re x).part Prod.fst = (fnVal C fn l re x).1 := T.part_eq _ _

/-- A tree's claim, its known branches alone. -/
def T.okv {α : Type} (Q : α → Prop) : T α → Prop
  | .ret a => Q a
  | .br b t e => bif b then t.okv Q else e.okv Q
  | .need p t => p ∧ t.okv Q
  | .fail _ => False
theorem T.okv_holds {α : Type} {Q : α → Prop} : ∀ {t : T α}, t.okv Q → t.holds Q
  | .ret _, h => h
  | .br b t e, h => by
    refine ⟨fun hb => ?_, fun hb => ?_⟩
    · subst hb; exact T.okv_holds (t := t) h
    · subst hb; exact T.okv_holds (t := e) h
  | .need _ _, h => ⟨h.1, T.okv_holds h.2⟩
  | .fail _, h => h.elim

end Go.Mir

namespace Go.Mir

def bv (a : Int) : BitVec 64 := BitVec.ofInt 64 a
def bn (x : BitVec 64) : Int := (x.toNat : Int)

theorem bv_bn (x : BitVec 64) : bv (bn x) = x := by
  apply BitVec.eq_of_toNat_eq
  unfold bv bn
  rw [ofInt_toNat_u]
  have := x.isLt
  omega

theorem bn_bv {a : Int} (h : inU a) : bn (bv a) = a := by
  unfold inU at h
  unfold bv bn
  rw [ofInt_toNat_u]
  omega

theorem bn_in (x : BitVec 64) : inU (bn x) := by
  have := x.isLt
  unfold inU bn; omega

theorem wrap_bn (x : BitVec 64) : IntKind.u64.wrap ((x.toNat : Nat) : Int) = bn x := by
  have := x.isLt
  rw [u64_wrap]; unfold bn; omega

theorem and_bv (a b : Int) : iAnd .u64 a b = bn (bv a &&& bv b) := by unfold iAnd; exact wrap_bn _
theorem or_bv (a b : Int) : iOr .u64 a b = bn (bv a ||| bv b) := by unfold iOr; exact wrap_bn _
theorem xor_bv (a b : Int) : iXor .u64 a b = bn (bv a ^^^ bv b) := by unfold iXor; exact wrap_bn _
theorem andNot_bv (a b : Int) : iAndNot .u64 a b = bn (bv a &&& ~~~ bv b) := by unfold iAndNot; exact wrap_bn _
theorem add_bv (a b : Int) : iAdd .u64 a b = bn (bv a + bv b) := by
  rw [iAdd_u]; unfold bn bv
  rw [BitVec.toNat_add, ofInt_toNat_u, ofInt_toNat_u]; omega
theorem sub_bv (a b : Int) : iSub .u64 a b = bn (bv a - bv b) := by
  rw [iSub_u]; unfold bn bv
  rw [BitVec.toNat_sub, ofInt_toNat_u, ofInt_toNat_u]; omega
theorem shr_bv {a : Int} (h : inU a) (n : Nat) (hn : n ≤ 64) : iShr .u64 a n = bn (bv a >>> n) := by
  rw [iShr_n _ _ _ hn]
  unfold inU at h
  unfold bn bv
  rw [BitVec.toNat_ushiftRight, ofInt_toNat_u, Nat.shiftRight_eq_div_pow, Int.natCast_ediv]
  rw [show a % 18446744073709551616 = a by omega, Int.toNat_of_nonneg h.1]
  simp

theorem or_add {x y : BitVec 64} (h : x &&& y = 0#64) : x ||| y = x + y := (BitVec.add_eq_or_of_and_eq_zero x y h).symm

theorem and_not_sub (a m : BitVec 64) : a - (a &&& m) = a &&& ~~~ m := by
  have h : (a &&& m) &&& (a &&& ~~~ m) = 0#64 := by
    apply BitVec.eq_of_getLsbD_eq
    intro i hi
    simp only [BitVec.getLsbD_and, BitVec.getLsbD_not, BitVec.getLsbD_zero, hi, decide_true, Bool.true_and]
    cases a.getLsbD i <;> cases m.getLsbD i <;> rfl
  have h2 : (a &&& m) ||| (a &&& ~~~ m) = a := by
    apply BitVec.eq_of_getLsbD_eq
    intro i hi
    simp only [BitVec.getLsbD_and, BitVec.getLsbD_or, BitVec.getLsbD_not, hi, decide_true, Bool.true_and]
    cases a.getLsbD i <;> cases m.getLsbD i <;> rfl
  have h3 := or_add h
  rw [h2] at h3
  conv => lhs; lhs; rw [h3]
  rw [BitVec.add_comm, BitVec.add_sub_cancel]

/-- Some bits of a number laid over another one's: by bits, and by a difference and a sum. -/
theorem lay_bv (a t m : BitVec 64) : (a &&& ~~~ m) ||| (t &&& m) = a - (a &&& m) + (t &&& m) := by
  rw [and_not_sub]
  apply or_add
  apply BitVec.eq_of_getLsbD_eq
  intro i hi
  simp only [BitVec.getLsbD_and, BitVec.getLsbD_not, BitVec.getLsbD_zero, hi, decide_true, Bool.true_and]
  cases a.getLsbD i <;> cases m.getLsbD i <;> simp

theorem and_all {a : Int} (h : inU a) : iAnd .u64 a 18446744073709551615 = a := by
  rw [and_bv, show bv 18446744073709551615 = BitVec.allOnes 64 by decide, BitVec.and_allOnes, bn_bv h]

theorem iEq_comm (a b : Int) : iEq a b = iEq b a := by
  cases h : iEq b a with
  | true => rw [iEq_t] at *; omega
  | false => rw [iEq_f] at *; omega

/-- One bit of a number. -/
theorem bit_u {a : Int} (h : inU a) (k : Nat) (hk : k < 64) : iAnd .u64 a ((2 ^ k : Nat) : Int) = (a / 2 ^ k % 2) * 2 ^ k := by
  unfold inU at h
  have hp : (2 : Nat) ^ k < 2 ^ 64 := Nat.pow_lt_pow_right (by decide) hk
  have hp' : 0 < (2 : Nat) ^ k := Nat.pow_pos (by decide)
  rw [iAnd_u, show a % 18446744073709551616 = a by omega, show ((2 ^ k : Nat) : Int) % 18446744073709551616 = ((2 ^ k : Nat) : Int) from Int.emod_eq_of_lt (by omega) (by omega), Int.toNat_natCast]
  obtain ⟨x, rfl⟩ := Int.eq_ofNat_of_zero_le h.1
  rw [Int.toNat_natCast]
  have h3 : x &&& 2 ^ k = x / 2 ^ k % 2 * 2 ^ k := by
    have hb : x.testBit k = decide (x / 2 ^ k % 2 = 1) := Nat.testBit_eq_decide_div_mod_eq
    have hm : x / 2 ^ k % 2 = 0 ∨ x / 2 ^ k % 2 = 1 := by omega
    apply Nat.eq_of_testBit_eq
    intro i
    rw [Nat.testBit_and, Nat.testBit_two_pow]
    rcases hm with hm | hm
    · rw [hm] at hb ⊢
      rw [Nat.zero_mul, Nat.zero_testBit]
      by_cases e : k = i
      · subst e; rw [hb]; rfl
      · simp [e]
    · rw [hm] at hb ⊢
      rw [Nat.one_mul, Nat.testBit_two_pow]
      by_cases e : k = i
      · subst e; rw [hb]; simp
      · simp [e]
  rw [h3]
  simp

end Go.Mir
