/-
CsrKnown returns true for every input, and its arguments read behind the call as before. No conditions beyond those of the given row.
-/
import Derived.Test.YtfdnbpndnmlmpaaRows
import Derived.Test.YtfdnbpndnmlmpaaCsrKnownP7

set_option linter.unusedVariables false
set_option linter.unusedSimpArgs false

namespace Go.Mir
open Go.Proofs

set_option maxRecDepth 100000

def capTs : List TypeId := [4, 3, 3, 3, 3, 3, 3, 4, 22]
def hartTs : List TypeId := (List.replicate 42 capTs).flatten ++ [3, 22, 22, 22, 22, 22, 22, 22, 22, 22, 22, 22, 22, 22, 22, 22, 22, 4]
theorem hart_ts : Try.prog.cellTypes Try.prog.depth 27 = some hartTs := by kernel_rfl
theorem hart_ks : hartTs.map (ckOf Try.prog) = hartK.map some := by kernel_rfl
theorem hart_len : Try.prog.cellsOf 27 = hartK.length := by kernel_rfl

theorem open_hart {w : World} {r : Reach} {b : Nat} {v : Value} (h : Value.okWide Try.prog w r b 27 v) : ∃ x : Hart, v = .agg (hartCells x).toArray ∧ HTy x := by
  obtain ⟨cs, rfl, ht⟩ := typed_row Try.underlying27 hart_ts hart_ks hart_len h
  obtain ⟨x, rfl, hx⟩ := typed_hart ht
  exact ⟨x, rfl, hx⟩

theorem own : ownKnob Try.prog.godebug = none := by kernel_rfl
def hart0 : Hart := ⟨fun _ => default, default, default, default, default, default, default, default, default, default, default, 0, 0, 0, 0, 0, 0, 0, 0, 0, 0, 0, 0, 0, 0, 0, 0, 0, false⟩
theorem plain_tells : ([27, 3, 4, 22, 22, 22].all (plainB Try.prog 8)) = true := by kernel_rfl

end Go.Mir

namespace Go.Mir
open Go.Proofs

abbrev u64 : Sh := .nu .u64
abbrev i64 : Sh := .nu .i64
abbrev W : Sh := .rc (.pr (.nu .u64) (.pr (.nu .u64) .en))
abbrev Wd : Type := Int × Int × Unit

set_option maxRecDepth 100000

theorem l0 : ListsOk Try.prog csrRows [] [] := .nil csr_tab

/- truth, one -/
def truth (b : Bool) : Int := bif b then 1 else 0
def sTruth : PSpec := pspec csrRows [.v .bo] (.one i64) (fun _ => []) fun x => truth x.1
theorem f80_s : PSound Try.prog csrRows 80 sTruth :=
  pure_sound (fn := Try.f80) (l0.ctx 0) csr_mix rfl (fn_is (by kernel_rfl) (by kernel_rfl)) (fun x => by kernel_rfl) fun x _ => T.req_clean (by kernel_rfl)
theorem f85_s : PSound Try.prog csrRows 85 sTruth :=
  pure_sound (fn := Try.f85) (l0.ctx 0) csr_mix rfl (fn_is (by kernel_rfl) (by kernel_rfl)) (fun x => by kernel_rfl) fun x _ => T.req_clean (by kernel_rfl)

/- part: the upper part with a step -/
def refPart (a s : Int) : Int × Bool × Unit := bif iLt s 0 then (iSub .u64 a 1, iEq a 0, ()) else (iAdd .u64 a (iCv .u64 s), false, ())
def sPart : PSpec := pspec csrRows [.v u64, .v i64] (.tu [u64, .bo]) (fun _ => []) fun x => refPart x.1 x.2.1
theorem f81_s : PSound Try.prog csrRows 81 sPart :=
  pure_sound (fn := Try.f81) (l0.ctx 0) csr_mix rfl (fn_is (by kernel_rfl) (by kernel_rfl)) (fun x => by kernel_rfl) fun x _ => T.req_clean (by kernel_rfl)

/- add: numbers of 65 bits -/
def refAdd (a b : Wd) : Wd :=
  bif iLt (iAdd .u64 a.2.1 b.2.1) a.2.1 then (iRem (iAdd .u64 (iAdd .u64 a.1 b.1) 1) 2, iAdd .u64 a.2.1 b.2.1, ()) else (iRem (iAdd .u64 a.1 b.1) 2, iAdd .u64 a.2.1 b.2.1, ())
def sAdd : PSpec := pspec csrRows [.v W, .v W] (.one W) (fun _ => []) fun x => refAdd x.1 x.2.1
theorem f82_s : PSound Try.prog csrRows 82 sAdd :=
  pure_sound (fn := Try.f82) (l0.ctx 0) csr_mix rfl (fn_is (by kernel_rfl) (by kernel_rfl)) (fun x => by kernel_rfl) fun x _ => T.req_clean (by kernel_rfl)

/- signed: a small number, below 0 too -/
def signed (v : Int) : Wd := (iShr .u64 (iCv .u64 v) 63, iCv .u64 v, ())
def sSigned : PSpec := pspec csrRows [.v i64] (.one W) (fun _ => []) fun x => signed x.1
theorem f87_s : PSound Try.prog csrRows 87 sSigned :=
  pure_sound (fn := Try.f87) (l0.ctx 0) csr_mix rfl (fn_is (by kernel_rfl) (by kernel_rfl)) (fun x => by kernel_rfl) fun x _ => T.req_clean (by kernel_rfl)

/- up: shifted up by 0 to 65 -/
def upW (a : Wd) (n : Int) : Wd :=
  bif iEq n 0 then a else bif iLe 65 n then (0, 0, ()) else bif iEq n 64 then (iAnd .u64 a.2.1 1, 0, ()) else (iAnd .u64 (iShr .u64 a.2.1 (iSub .i64 64 n)) 1, iShl .u64 a.2.1 n, ())
def sUp : PSpec := pspec csrRows [.v W, .v i64] (.one W) (fun x => [(0 : Int) ≤ x.2.1]) fun x => upW x.1 x.2.1
theorem f88_req (a : Wd) (n : Int) : (runT (mkCtx csrRows [] [] 0) Try.f88 [.v W, .v i64] (.one W) (a, n, ())).req = (iEq n 0 = false → iLe 65 n = false → iEq n 64 = false → nneg (iSub .i64 64 n) ∧ nneg n) := by kernel_rfl
theorem f88_s : PSound Try.prog csrRows 88 sUp :=
  pure_sound (fn := Try.f88) (l0.ctx 0) csr_mix rfl (fn_is (by kernel_rfl) (by kernel_rfl)) (fun x => by kernel_rfl) fun x hx => T.ok_req (by
    obtain ⟨a, n, u⟩ := x
    have hn : (0 : Int) ≤ n := hx _ (List.mem_singleton.2 rfl)
    rw [f88_req a n]
    intro h1 h2 h3
    rw [iEq_f] at h1 h3; rw [iLe_f] at h2
    have h2 : (n : Int) < 65 := h2
    rw [nneg_iff, nneg_iff, iSub_i (by omega) (by omega)]
    have h3 : (n : Int) ≠ 64 := h3
    omega)

/- plus: a sum, modulo 2^65 -/
theorem f90_s : PSound Try.prog csrRows 90 (add64Spec csrRows) := add64_sound (fn := Try.f90) (by kernel_rfl) (by kernel_rfl) (by kernel_rfl) (by kernel_rfl) (by kernel_rfl)
theorem l1 : ListsOk Try.prog csrRows [(90, add64Spec csrRows)] [] := .consP l0 f90_s

def plus (a b : Wd) : Wd := (iAnd .u64 (iAdd .u64 (iAdd .u64 a.1 b.1) (addHi a.2.1 b.2.1 0)) 1, addLo a.2.1 b.2.1 0, ())
def sPlus : PSpec := pspec csrRows [.v W, .v W] (.one W) (fun x => [addOk x.1.2.1 x.2.1.2.1 0]) fun x => plus x.1 x.2.1
theorem f89_s : PSound Try.prog csrRows 89 sPlus :=
  pure_sound (fn := Try.f89) (l1.ctx 0) csr_mix rfl (fn_is (by kernel_rfl) (by kernel_rfl)) (fun x => by kernel_rfl) fun x hx => T.ok_req (by
    have h0 := hx _ (List.mem_singleton.2 rfl)
    rw [show (runT (mkCtx csrRows [(90, add64Spec csrRows)] [] 0) Try.f89 [.v W, .v W] (.one W) x).req = addOk x.1.2.1 x.2.1.2.1 0 by kernel_rfl]
    exact h0)

/- up, by steps of one: numbers modulo 2^65 -/
def upL : Nat → Nat → Int → Int → Int → Wd
  | 0, _, _, _, _ => (0, 0, ())
  | k + 1, i, n, h, l => bif iLt (Int.ofNat i) n then upL k (i + 1) n (iShr .u64 l 63) (iShl .u64 l 1) else (h, l, ())
def refUp (a : Int) (b : Bool) (n : Int) : Wd := bif b then upL 67 0 n 1 a else upL 67 0 n 0 a
def chain : Nat → Nat → Int → Prop
  | 0, _, _ => False
  | k + 1, i, n => iLt (Int.ofNat i) n = true → chain k (i + 1) n
theorem chain_not : ∀ (k i : Nat) (n : Int), n ≤ i + k → chain (k + 1) i n
  | 0, i, n, h => fun hi => by
    rw [iLt_t] at hi
    have : (i : Int) < n := hi
    omega
  | k + 1, i, n, h => fun _ => chain_not k (i + 1) n (by omega)
def sRefUp : PSpec := pspec csrRows [.v u64, .v .bo, .v i64] (.one W) (fun x => [(x.2.2.1 : Int) ≤ 66]) fun x => refUp x.1 x.2.1 x.2.2.1
theorem f83_s : PSound Try.prog csrRows 83 sRefUp :=
  pure_sound (fn := Try.f83) (l0.ctx 67) csr_mix rfl (fn_is (by kernel_rfl) (by kernel_rfl)) (fun x => by kernel_rfl) fun x hx => T.ok_req (by
    rw [show (runT (mkCtx csrRows [] [] 67) Try.f83 [.v u64, .v .bo, .v i64] (.one W) x).req = ((x.2.1 = true → chain 67 0 x.2.2.1) ∧ (x.2.1 = false → chain 67 0 x.2.2.1)) by kernel_rfl]
    have h0 : (x.2.2.1 : Int) ≤ 66 := hx _ (List.mem_singleton.2 rfl)
    exact ⟨fun _ => chain_not 66 0 _ (by simpa using h0), fun _ => chain_not 66 0 _ (by simpa using h0)⟩)

end Go.Mir

namespace Go.Mir
open Go.Proofs

set_option maxRecDepth 100000

noncomputable def ps1 : List (Nat × PSpec) := [(85, sTruth), (87, sSigned), (88, sUp), (89, sPlus)]
theorem l2 : ListsOk Try.prog csrRows ps1 [] := .consP (.consP (.consP (.consP l0 f89_s) f88_s) f87_s) f85_s
noncomputable def ss1 : List (Nat × Spec) := [(86, inl (mkCtx csrRows ps1 [] 0) Try.f86)]
theorem f86_s : SSound Try.prog csrRows 86 (inl (mkCtx csrRows ps1 [] 0) Try.f86) := inl_sound (l2.ctx 0) csr_mix (fn_is (by kernel_rfl) (by kernel_rfl))
theorem l3 : ListsOk Try.prog csrRows ps1 ss1 := .consS l2 f86_s

/- bounds.Of -/
def bT (c : Cap) : Int := iOr .i64 c.t (iShl .i64 (iAnd .i64 (iAdd .i64 (iAdd .i64 (iShr .i64 c.b 12) (truth (iLt c.t (iAnd .i64 c.b 4095)))) (truth c.big)) 3) 12)
def bCorner (c : Cap) : Int := iShl .i64 (iAnd .i64 (iSub .i64 (iShr .i64 c.b 11) 1) 7) 11
def bMiddle (c : Cap) : Int := iAnd .i64 (iCv .i64 (iShr .u64 c.addr c.e)) 16383
def bStep (c : Cap) (m : Int) : Int := iSub .i64 (truth (iLt m (bCorner c))) (truth (iLt (bMiddle c) (bCorner c)))
def bEnd (c : Cap) (upper m : Int) : Wd := plus (upW (signed (iAdd .i64 upper (bStep c m))) (iAdd .i64 c.e 14)) (upW (0, iCv .u64 m, ()) c.e)
def bFin (c : Cap) (f t : Wd) : Rng :=
  bif iLt c.e 51 then
    bif iLt 1 (iAnd .u64 (iSub .u64 (iAdd .u64 (iShl .u64 t.1 1) (iShr .u64 t.2.1 63)) (iShr .u64 f.2.1 63)) 3) then ⟨f.2.1, t.2.1, iEq (iXor .u64 t.1 1) 1⟩ else ⟨f.2.1, t.2.1, iEq t.1 1⟩
  else ⟨f.2.1, t.2.1, iEq t.1 1⟩
def bUpper (c : Cap) : Int := iCv .i64 (iShr .u64 c.addr (iAdd .i64 c.e 14))
def bOf (c : Cap) : Rng :=
  bif iLt (iAdd .i64 c.e 14) 64 then bFin c (bEnd c (bUpper c) c.b) (bEnd c (bUpper c) (bT c)) else bFin c (bEnd c 0 c.b) (bEnd c 0 (bT c))
theorem f84_val (c : Cap) : (runT (mkCtx csrRows ps1 ss1 0) Try.f84 [.v .cap] (.one .rng) (c, ())).part Prod.fst = bOf c := by kernel_rfl

def endOk (c : Cap) (upper m : Int) : Prop := addOk (upW (signed (iAdd .i64 upper (bStep c m))) (iAdd .i64 c.e 14)).2.1 (upW (0, iCv .u64 m, ()) c.e).2.1 0
def ofReq (c : Cap) (u : Int) : Prop := ((0 : Int) ≤ iAdd .i64 c.e 14) ∧ ((0 : Int) ≤ c.e) ∧ endOk c u c.b ∧ ((0 : Int) ≤ iAdd .i64 c.e 14) ∧ ((0 : Int) ≤ c.e) ∧ endOk c u (bT c)
theorem f84_req (c : Cap) : (runT (mkCtx csrRows ps1 ss1 0) Try.f84 [.v .cap] (.one .rng) (c, ())).req =
    (nneg c.e ∧ ((iLt (iAdd .i64 c.e 14) 64 = true → nneg (iAdd .i64 c.e 14) ∧ ofReq c (bUpper c)) ∧ (iLt (iAdd .i64 c.e 14) 64 = false → ofReq c 0))) := by kernel_rfl

theorem upW_lo {a : Wd} (h : inU a.2.1) (n : Int) : inU (upW a n).2.1 := by
  unfold upW
  cases iEq n 0 <;> cases iLe 65 n <;> cases iEq n 64 <;> simp only [cond_true, cond_false] <;> first | exact h | exact inU_shl _ _ | exact ⟨by decide, by decide⟩

theorem endOk_all (c : Cap) (u m : Int) : endOk c u m := by
  unfold endOk
  rw [addOk_iff]
  have h1 := upW_lo (a := signed (iAdd .i64 u (bStep c m))) (inU_cv _) (iAdd .i64 c.e 14)
  have h2 := upW_lo (a := (0, iCv .u64 m, ())) (inU_cv _) c.e
  exact ⟨h1.1, h2.1, by decide, by decide⟩

/-- A capability whose exponent is one. -/
def eOk (c : Cap) : Prop := 0 ≤ c.e ∧ c.e ≤ 52
theorem ofReq_all {c : Cap} (h : eOk c) (u : Int) : ofReq c u := by
  unfold eOk at h
  have h1 : iAdd .i64 c.e 14 = c.e + 14 := iAdd_i (by omega) (by omega)
  unfold ofReq
  rw [h1]
  exact ⟨by omega, h.1, endOk_all _ _ _, by omega, h.1, endOk_all _ _ _⟩

def sOf : PSpec := pspec csrRows [.v .cap] (.one .rng) (fun x => [eOk x.1]) fun x => bOf x.1
theorem f84_s : PSound Try.prog csrRows 84 sOf :=
  pure_sound (fn := Try.f84) (l3.ctx 0) csr_mix rfl (fn_is (by kernel_rfl) (by kernel_rfl)) (fun x => f84_val x.1) fun x hx => T.ok_req (by
    have h := hx _ (List.mem_singleton.2 rfl)
    have h1 : iAdd .i64 x.1.e 14 = x.1.e + 14 := by unfold eOk at h; exact iAdd_i (by omega) (by omega)
    refine cast (f84_req x.1).symm ⟨nneg_iff.2 h.1, fun _ => ⟨nneg_iff.2 ?_, ofReq_all h _⟩, fun _ => ofReq_all h _⟩
    rw [h1]; unfold eOk at h; omega)

end Go.Mir

namespace Go.Mir
open Go.Proofs

set_option maxRecDepth 100000

noncomputable def ps2 : List (Nat × PSpec) := [(80, sTruth), (81, sPart), (82, sAdd), (83, sRefUp)]
theorem l4 : ListsOk Try.prog csrRows ps2 [] := .consP (.consP (.consP (.consP l0 f83_s) f82_s) f81_s) f80_s

def rT (c : Cap) : Int := iAdd .i64 c.t (iMul .i64 (iRem (iAdd .i64 (iAdd .i64 (iQuo .i64 c.b 4096) (truth (iLt c.t (iRem c.b 4096)))) (truth c.big)) 4) 4096)
def rCorner (c : Cap) : Int := iMul .i64 (iRem (iAdd .i64 (iQuo .i64 c.b 2048) 7) 8) 2048
def rMiddle (c : Cap) : Int := iCv .i64 (iRem (iShr .u64 c.addr (iCv .u64 c.e)) 16384)
def rStep (c : Cap) (m : Int) : Int := iSub .i64 (truth (iLt m (rCorner c))) (truth (iLt (rMiddle c) (rCorner c)))
def rEnd (c : Cap) (a m : Int) : Wd :=
  refAdd (refUp (refPart a (rStep c m)).1 (refPart a (rStep c m)).2.1 (iAdd .i64 c.e 14)) (refUp (iCv .u64 m) false c.e)
def rFin (c : Cap) (f t : Wd) : Rng :=
  bif iLt c.e 51 then
    bif iLt 1 (iRem (iSub .u64 (iAdd .u64 (iAdd .u64 (iMul .u64 2 t.1) (iShr .u64 t.2.1 63)) 4) (iShr .u64 f.2.1 63)) 4) then ⟨f.2.1, t.2.1, iEq (iSub .u64 1 t.1) 1⟩ else ⟨f.2.1, t.2.1, iEq t.1 1⟩
  else ⟨f.2.1, t.2.1, iEq t.1 1⟩
def rUpper (c : Cap) : Int := iShr .u64 c.addr (iCv .u64 (iAdd .i64 c.e 14))
def rOf (c : Cap) : Rng :=
  bif iLt (iAdd .i64 c.e 14) 64 then rFin c (rEnd c (rUpper c) c.b) (rEnd c (rUpper c) (rT c)) else rFin c (rEnd c 0 c.b) (rEnd c 0 (rT c))
theorem f76_val (c : Cap) : (runT (mkCtx csrRows ps2 [] 0) Try.f76 [.v .cap] (.one .rng) (c, ())).part Prod.fst = rOf c := by kernel_rfl

def rReq (c : Cap) : Prop := (iAdd .i64 c.e 14 ≤ 66) ∧ (c.e ≤ 66) ∧ (iAdd .i64 c.e 14 ≤ 66) ∧ (c.e ≤ 66)
theorem f76_req (c : Cap) : (runT (mkCtx csrRows ps2 [] 0) Try.f76 [.v .cap] (.one .rng) (c, ())).req =
    (nneg (iCv .u64 c.e) ∧ ((iLt (iAdd .i64 c.e 14) 64 = true → nneg (iCv .u64 (iAdd .i64 c.e 14)) ∧ rReq c) ∧ (iLt (iAdd .i64 c.e 14) 64 = false → rReq c))) := by kernel_rfl

def sROf : PSpec := pspec csrRows [.v .cap] (.one .rng) (fun x => [eOk x.1]) fun x => rOf x.1
theorem f76_s : PSound Try.prog csrRows 76 sROf :=
  pure_sound (fn := Try.f76) (l4.ctx 0) csr_mix rfl (fn_is (by kernel_rfl) (by kernel_rfl)) (fun x => f76_val x.1) fun x hx => T.ok_req (by
    have h := hx _ (List.mem_singleton.2 rfl)
    have h1 : iAdd .i64 x.1.e 14 = x.1.e + 14 := by unfold eOk at h; exact iAdd_i (by omega) (by omega)
    have h2 : rReq x.1 := by unfold rReq; rw [h1]; unfold eOk at h; omega
    exact cast (f76_req x.1).symm ⟨nneg_cv _, fun _ => ⟨nneg_cv _, h2⟩, fun _ => h2⟩)

end Go.Mir

namespace Go.Mir
open Go.Proofs

set_option maxRecDepth 100000

noncomputable def ps3 : List (Nat × PSpec) := [(84, sOf), (76, sROf)]
theorem l5 : ListsOk Try.prog csrRows ps3 [] := .consP (.consP l0 f76_s) f84_s

def bFits (c : Cap) (at_ : Int) : Bool := rngEq (bOf { c with addr := at_ }) (bOf c)
def sFits : PSpec := pspec csrRows [.v .cap, .v u64] (.one .bo) (fun x => [eOk x.1]) fun x => bFits x.1 x.2.1
theorem f78_s : PSound Try.prog csrRows 78 sFits :=
  pure_sound (fn := Try.f78) (l5.ctx 0) csr_mix rfl (fn_is (by kernel_rfl) (by kernel_rfl)) (fun x => by kernel_rfl) fun x hx => T.ok_req (by
    have h := hx _ (List.mem_singleton.2 rfl)
    rw [show (runT (mkCtx csrRows ps3 [] 0) Try.f78 [.v .cap, .v u64] (.one .bo) x).req = (eOk x.1 ∧ eOk { x.1 with addr := x.2.1 }) by kernel_rfl]
    exact ⟨h, h⟩)

def rFits (c : Cap) (at_ : Int) : Bool := rngEq (rOf c) (rOf { c with addr := at_ })
def sRFits : PSpec := pspec csrRows [.v .cap, .v u64] (.one .bo) (fun x => [eOk x.1]) fun x => rFits x.1 x.2.1
theorem f67_s : PSound Try.prog csrRows 67 sRFits :=
  pure_sound (fn := Try.f67) (l5.ctx 0) csr_mix rfl (fn_is (by kernel_rfl) (by kernel_rfl)) (fun x => by kernel_rfl) fun x hx => T.ok_req (by
    have h := hx _ (List.mem_singleton.2 rfl)
    rw [show (runT (mkCtx csrRows ps3 [] 0) Try.f67 [.v .cap, .v u64] (.one .bo) x).req = (eOk x.1 ∧ eOk { x.1 with addr := x.2.1 }) by kernel_rfl]
    exact ⟨h, h⟩)

def sealed (c : Cap) : Bool := bNot (iEq c.type 262143)
def sSealed : PSpec := pspec csrRows [.v .cap] (.one .bo) (fun _ => []) fun x => sealed x.1
theorem f66_s : PSound Try.prog csrRows 66 sSealed :=
  pure_sound (fn := Try.f66) (l0.ctx 0) csr_mix rfl (fn_is (by kernel_rfl) (by kernel_rfl)) (fun x => by kernel_rfl) fun x _ => T.req_clean (by kernel_rfl)
theorem f77_s : PSound Try.prog csrRows 77 sSealed :=
  pure_sound (fn := Try.f77) (l0.ctx 0) csr_mix rfl (fn_is (by kernel_rfl) (by kernel_rfl)) (fun x => by kernel_rfl) fun x _ => T.req_clean (by kernel_rfl)

def withTag (c : Cap) (t : Bool) : Cap := { c with tag := t }
def sWith : PSpec := pspec csrRows [.v .cap, .v .bo] (.one .cap) (fun _ => []) fun x => withTag x.1 x.2.1
theorem f68_s : PSound Try.prog csrRows 68 sWith :=
  pure_sound (fn := Try.f68) (l0.ctx 0) csr_mix rfl (fn_is (by kernel_rfl) (by kernel_rfl)) (fun x => by kernel_rfl) fun x _ => T.req_clean (by kernel_rfl)

def keep (c : Cap) (t : Bool) : Cap := bif c.tag then { c with tag := t } else { c with tag := false }
def sKeep : PSpec := pspec csrRows [.v .cap, .v .bo] (.one .cap) (fun _ => []) fun x => keep x.1 x.2.1
theorem f79_s : PSound Try.prog csrRows 79 sKeep :=
  pure_sound (fn := Try.f79) (l0.ctx 0) csr_mix rfl (fn_is (by kernel_rfl) (by kernel_rfl)) (fun x => by kernel_rfl) fun x _ => T.req_clean (by kernel_rfl)

noncomputable def ps4 : List (Nat × PSpec) := [(77, sSealed), (78, sFits), (79, sKeep), (66, sSealed), (67, sRFits), (68, sWith)]
theorem l6 : ListsOk Try.prog csrRows ps4 [] := .consP (.consP (.consP (.consP (.consP (.consP l0 f68_s) f67_s) f66_s) f79_s) f78_s) f77_s

def bMove (c : Cap) (a : Int) : Cap := bif bNot (sealed c) then keep { c with addr := a } (bFits c a) else keep { c with addr := a } false
def sMove : PSpec := pspec csrRows [.v .cap, .v u64] (.one .cap) (fun x => [eOk x.1]) fun x => bMove x.1 x.2.1
theorem f71_s : PSound Try.prog csrRows 71 sMove :=
  pure_sound (fn := Try.f71) (l6.ctx 0) csr_mix rfl (fn_is (by kernel_rfl) (by kernel_rfl)) (fun x => by kernel_rfl) fun x hx => T.ok_req (by
    have h := hx _ (List.mem_singleton.2 rfl)
    rw [show (runT (mkCtx csrRows ps4 [] 0) Try.f71 [.v .cap, .v u64] (.one .cap) x).req = (bNot (sealed x.1) = true → eOk x.1) by kernel_rfl]
    exact fun _ => h)

def rMove (c : Cap) (a : Int) : Cap :=
  bif c.tag then bif bNot (sealed c) then { c with tag := rFits c a, addr := a } else { c with tag := false, addr := a } else { c with tag := false, addr := a }
def sRMove : PSpec := pspec csrRows [.v .cap, .v u64] (.one .cap) (fun x => [eOk x.1]) fun x => rMove x.1 x.2.1
theorem f29_s : PSound Try.prog csrRows 29 sRMove :=
  pure_sound (fn := Try.f29) (l6.ctx 0) csr_mix rfl (fn_is (by kernel_rfl) (by kernel_rfl)) (fun x => by kernel_rfl) fun x hx => T.ok_req (by
    have h := hx _ (List.mem_singleton.2 rfl)
    rw [show (runT (mkCtx csrRows ps4 [] 0) Try.f29 [.v .cap, .v u64] (.one .cap) x).req = (x.1.tag = true → bNot (sealed x.1) = true → eOk x.1) by kernel_rfl]
    exact fun _ _ => h)

end Go.Mir

namespace Go.Mir
open Go.Proofs

set_option maxRecDepth 100000

def within (n h : Int) : Bool := bif iLe 0 n then iLe n h else false
def sWithin : PSpec := pspec csrRows [.v i64, .v i64] (.one .bo) (fun _ => []) fun x => within x.1 x.2.1
theorem f30_s : PSound Try.prog csrRows 30 sWithin :=
  pure_sound (fn := Try.f30) (l0.ctx 0) csr_mix rfl (fn_is (by kernel_rfl) (by kernel_rfl)) (fun x => by kernel_rfl) fun x _ => T.req_clean (by kernel_rfl)

def number (n : Int) : Cap := ⟨false, 0, 262143, 0, 52, 0, 0, true, n⟩
def sNumber : PSpec := pspec csrRows [.v u64] (.one .cap) (fun _ => []) fun x => number x.1
theorem f21_s : PSound Try.prog csrRows 21 sNumber :=
  pure_sound (fn := Try.f21) (l0.ctx 0) csr_mix rfl (fn_is (by kernel_rfl) (by kernel_rfl)) (fun x => by kernel_rfl) fun x _ => T.req_clean (by kernel_rfl)

noncomputable def ps5 : List (Nat × PSpec) := [(30, sWithin), (21, sNumber)]
theorem l7 : ListsOk Try.prog csrRows ps5 [] := .consP (.consP l0 f21_s) f30_s

def right (c : Cap) : Bool :=
  bif bNot (within c.perms 65535) then false else bif bNot (within c.type 262143) then false else bif bNot (within c.mode 1) then false else
  bif bNot (within c.b 16383) then false else bif bNot (within c.t 4095) then false else
  bif bNot c.big then iEq c.e 0 else bif within c.e 52 then bif iEq (iAnd .i64 c.b 7) 0 then iEq (iAnd .i64 c.t 7) 0 else false else false
def sRight : PSpec := pspec csrRows [.v .cap] (.one .bo) (fun _ => []) fun x => right x.1
theorem f20_s : PSound Try.prog csrRows 20 sRight :=
  pure_sound (fn := Try.f20) (l7.ctx 6) csr_mix rfl (fn_is (by kernel_rfl) (by kernel_rfl)) (fun x => by kernel_rfl) fun x _ => T.req_clean (by kernel_rfl)

def root (m a : Int) : Cap := bif iEq m 1 then ⟨true, 65535, 262143, 1, 52, 0, 0, true, a⟩ else ⟨true, 65535, 262143, 0, 52, 0, 0, true, a⟩
def sRoot : PSpec := pspec csrRows [.v i64, .v u64] (.one .cap) (fun _ => []) fun x => root x.1 x.2.1
theorem f16_s : PSound Try.prog csrRows 16 sRoot :=
  pure_sound (fn := Try.f16) (l7.ctx 6) csr_mix rfl (fn_is (by kernel_rfl) (by kernel_rfl)) (fun x => by kernel_rfl) fun x _ => T.req_clean (by kernel_rfl)

end Go.Mir

namespace Go.Mir
open Go.Proofs

set_option maxRecDepth 100000

noncomputable def ps6 : List (Nat × PSpec) := [(20, sRight), (21, sNumber)]
theorem l8 : ListsOk Try.prog csrRows ps6 [] := .consP (.consP l0 f21_s) f20_s

def rightXs : Nat → Nat → Hart → Bool → Bool
  | 0, _, _, r => r
  | k + 1, i, h, r => bif bNot (right (h.x i)) then false else rightXs k (i + 1) h r
def rightCs : List Cap → Bool → Bool
  | [], r => r
  | c :: l, r => bif bNot (right c) then false else rightCs l r
def hartRight (h : Hart) : Bool :=
  bif bNot (right (h.x 0)) then false else bif bNot (capEq (h.x 0) (number 0)) then false else
  rightXs 31 1 h (rightCs [h.pcc, h.ddc, h.stcc, h.stdc, h.sscr, h.sepcc, h.mtcc, h.mtdc, h.mscr, h.mepcc] (bif iEq h.priv 0 then true else bif iEq h.priv 1 then true else iEq h.priv 3))
def sHartRight : PSpec := pspec csrRows [.v .hart] (.one .bo) (fun _ => []) fun x => hartRight x.1
theorem f8_s : PSound Try.prog csrRows 8 sHartRight :=
  pure_sound (fn := Try.f8) (l8.ctx 33) csr_mix rfl (fn_is (by kernel_rfl) (by kernel_rfl)) (fun x => by kernel_rfl) fun x _ => T.req_clean (by kernel_rfl)

end Go.Mir

namespace Go.Mir
open Go.Proofs

set_option maxRecDepth 100000

def readOnly (no : Int) : Bool := iEq (iAnd .i64 (iShr .i64 no 10) 3) 3
def sReadOnly : PSpec := pspec csrRows [.v i64] (.one .bo) (fun _ => []) fun x => readOnly x.1
theorem f23_s : PSound Try.prog csrRows 23 sReadOnly :=
  pure_sound (fn := Try.f23) (l0.ctx 0) csr_mix rfl (fn_is (by kernel_rfl) (by kernel_rfl)) (fun x => by kernel_rfl) fun x _ => T.req_clean (by kernel_rfl)

def rBit (v n : Int) : Bool := iEq (iRem (iShr .u64 v (iCv .u64 n)) 2) 1
def sBit : PSpec := pspec csrRows [.v u64, .v i64] (.one .bo) (fun _ => []) fun x => rBit x.1 x.2.1
theorem f26_s : PSound Try.prog csrRows 26 sBit :=
  pure_sound (fn := Try.f26) (l0.ctx 0) csr_mix rfl (fn_is (by kernel_rfl) (by kernel_rfl)) (fun x => by kernel_rfl) fun x _ => T.ok_req (by
    rw [show (runT (mkCtx csrRows [] [] 0) Try.f26 [.v u64, .v i64] (.one .bo) x).req = nneg (iCv .u64 x.2.1) by kernel_rfl]
    exact nneg_cv _)

def sIllegal : PSpec := pspec csrRows [] (.one .trap) (fun _ => []) fun _ => ⟨true, 2, 0⟩
theorem f27_s : PSound Try.prog csrRows 27 sIllegal :=
  pure_sound (fn := Try.f27) (l0.ctx 0) csr_mix rfl (fn_is (by kernel_rfl) (by kernel_rfl)) (fun x => by kernel_rfl) fun x _ => T.req_clean (by kernel_rfl)

def rLay (was v bits : Int) : Int := iAdd .u64 (iSub .u64 was (iAnd .u64 was bits)) (iAnd .u64 v bits)
def sLay : PSpec := pspec csrRows [.v u64, .v u64, .v u64] (.one u64) (fun _ => []) fun x => rLay x.1 x.2.1 x.2.2.1
theorem f28_s : PSound Try.prog csrRows 28 sLay :=
  pure_sound (fn := Try.f28) (l0.ctx 0) csr_mix rfl (fn_is (by kernel_rfl) (by kernel_rfl)) (fun x => by kernel_rfl) fun x _ => T.req_clean (by kernel_rfl)

def isIn : List Int → Int → Bool → Bool
  | [], _, r => r
  | a :: l, n, r => bif iEq a n then true else isIn l n r
def there (n : Int) : Bool :=
  isIn [0x100, 0x104, 0x105, 0x106, 0x140, 0x141, 0x142, 0x143, 0x144, 0x180, 0x300, 0x301, 0x302, 0x303, 0x304, 0x305, 0x306, 0x340, 0x341, 0x342, 0x343, 0x344, 0xB00, 0xB02, 0xC00, 0xC01, 0xC02] n
    (bif iLe 0x3A0 n then bif iLe n 0x3EF then true else bif iLe 0xF11 n then iLe n 0xF14 else false else bif iLe 0xF11 n then iLe n 0xF14 else false)
def sThere : PSpec := pspec csrRows [.v i64] (.one .bo) (fun _ => []) fun x => there x.1
theorem f25_s : PSound Try.prog csrRows 25 sThere :=
  pure_sound (fn := Try.f25) (l0.ctx 33) csr_mix rfl (fn_is (by kernel_rfl) (by kernel_rfl)) (fun x => by kernel_rfl) fun x _ => T.req_clean (by kernel_rfl)

end Go.Mir

namespace Go.Mir
open Go.Proofs

set_option maxRecDepth 100000

def cBit (no : Int) : Int := iShl .u64 1 (iAnd .i64 no 3)
def counted (h : Hart) (no : Int) : Bool :=
  bif iLt h.priv 3 then bif iEq (iAnd .u64 h.mcounteren (cBit no)) 0 then true else bif iEq h.priv 0 then iEq (iAnd .u64 h.scounteren (cBit no)) 0 else false
  else bif iEq h.priv 0 then iEq (iAnd .u64 h.scounteren (cBit no)) 0 else false
def sCounted : PSpec := pspec csrRows [.p .hart, .v i64] (.one .bo) (fun _ => []) fun x => counted x.1 x.2.1
theorem f24_s : PSound Try.prog csrRows 24 sCounted :=
  see_sound (fn := Try.f24) (l0.ctx 0) csr_mix (fn_is (by kernel_rfl) (by kernel_rfl)) (fun x => by kernel_rfl) (fun x => by kernel_rfl) fun x _ => T.ok_req (by
    rw [show (runT (mkCtx csrRows [] [] 0) Try.f24 [.p .hart, .v i64] (.one .bo) x).req = nneg (iAnd .i64 x.2.1 3) by kernel_rfl]
    exact nneg_iff.2 (iAnd_i_bounds x.2.1 (m := 3) (by decide)).1)

end Go.Mir

namespace Go.Mir
open Go.Proofs

set_option maxRecDepth 100000

def delegated (h : Hart) : Int := iAnd .u64 h.mideleg 546
def sDelegated : PSpec := pspec csrRows [.p .hart] (.one u64) (fun _ => []) fun x => delegated x.1
theorem f35_s : PSound Try.prog csrRows 35 sDelegated :=
  see_clean (fn := Try.f35) (l0.ctx 0) csr_mix (fn_is (by kernel_rfl) (by kernel_rfl)) (fun x => by kernel_rfl) (fun x => by kernel_rfl) fun x => by kernel_rfl
def mipV (h : Hart) (w : Wd) : Int := iOr .u64 (iAnd .u64 h.mip 546) (iAnd .u64 w.2.1 2730)
def sMip : PSpec := pspec csrRows [.p .hart, .v W] (.one u64) (fun _ => []) fun x => mipV x.1 x.2.1
theorem f46_s : PSound Try.prog csrRows 46 sMip :=
  see_clean (fn := Try.f46) (l0.ctx 0) csr_mix (fn_is (by kernel_rfl) (by kernel_rfl)) (fun x => by kernel_rfl) (fun x => by kernel_rfl) fun x => by kernel_rfl
noncomputable abbrev ctxZ : Ctx := mkCtx csrRows [] [] 0

theorem f38_s : PSound Try.prog csrRows 38 (ptS ctxZ Try.f38) := ptS_sound (l0.ctx 0) csr_mix (fn_is (by kernel_rfl) (by kernel_rfl))
theorem f40_s : PSound Try.prog csrRows 40 (ptS ctxZ Try.f40) := ptS_sound (l0.ctx 0) csr_mix (fn_is (by kernel_rfl) (by kernel_rfl))
theorem f41_s : PSound Try.prog csrRows 41 (ptS ctxZ Try.f41) := ptS_sound (l0.ctx 0) csr_mix (fn_is (by kernel_rfl) (by kernel_rfl))
theorem f42_s : PSound Try.prog csrRows 42 (ptS ctxZ Try.f42) := ptS_sound (l0.ctx 0) csr_mix (fn_is (by kernel_rfl) (by kernel_rfl))
theorem f43_s : PSound Try.prog csrRows 43 (ptS ctxZ Try.f43) := ptS_sound (l0.ctx 0) csr_mix (fn_is (by kernel_rfl) (by kernel_rfl))
theorem f44_s : PSound Try.prog csrRows 44 (ptS ctxZ Try.f44) := ptS_sound (l0.ctx 0) csr_mix (fn_is (by kernel_rfl) (by kernel_rfl))
theorem f53_s : PSound Try.prog csrRows 53 (ptS ctxZ Try.f53) := ptS_sound (l0.ctx 0) csr_mix (fn_is (by kernel_rfl) (by kernel_rfl))
theorem f54_s : PSound Try.prog csrRows 54 (ptS ctxZ Try.f54) := ptS_sound (l0.ctx 0) csr_mix (fn_is (by kernel_rfl) (by kernel_rfl))
theorem f55_s : PSound Try.prog csrRows 55 (ptS ctxZ Try.f55) := ptS_sound (l0.ctx 0) csr_mix (fn_is (by kernel_rfl) (by kernel_rfl))
theorem f56_s : PSound Try.prog csrRows 56 (ptS ctxZ Try.f56) := ptS_sound (l0.ctx 0) csr_mix (fn_is (by kernel_rfl) (by kernel_rfl))
theorem f57_s : PSound Try.prog csrRows 57 (ptS ctxZ Try.f57) := ptS_sound (l0.ctx 0) csr_mix (fn_is (by kernel_rfl) (by kernel_rfl))
theorem f58_s : PSound Try.prog csrRows 58 (ptS ctxZ Try.f58) := ptS_sound (l0.ctx 0) csr_mix (fn_is (by kernel_rfl) (by kernel_rfl))
theorem f59_s : PSound Try.prog csrRows 59 (ptS ctxZ Try.f59) := ptS_sound (l0.ctx 0) csr_mix (fn_is (by kernel_rfl) (by kernel_rfl))
theorem f60_s : PSound Try.prog csrRows 60 (ptS ctxZ Try.f60) := ptS_sound (l0.ctx 0) csr_mix (fn_is (by kernel_rfl) (by kernel_rfl))
theorem f61_s : PSound Try.prog csrRows 61 (ptS ctxZ Try.f61) := ptS_sound (l0.ctx 0) csr_mix (fn_is (by kernel_rfl) (by kernel_rfl))
theorem f63_s : PSound Try.prog csrRows 63 (ptS ctxZ Try.f63) := ptS_sound (l0.ctx 0) csr_mix (fn_is (by kernel_rfl) (by kernel_rfl))
theorem f64_s : PSound Try.prog csrRows 64 (ptS ctxZ Try.f64) := ptS_sound (l0.ctx 0) csr_mix (fn_is (by kernel_rfl) (by kernel_rfl))
noncomputable def psC : List (Nat × PSpec) := [(71, sMove), (35, sDelegated), (46, sMip), (38, ptS ctxZ Try.f38), (40, ptS ctxZ Try.f40), (41, ptS ctxZ Try.f41), (42, ptS ctxZ Try.f42), (43, ptS ctxZ Try.f43), (44, ptS ctxZ Try.f44), (53, ptS ctxZ Try.f53), (54, ptS ctxZ Try.f54), (55, ptS ctxZ Try.f55), (56, ptS ctxZ Try.f56), (57, ptS ctxZ Try.f57), (58, ptS ctxZ Try.f58), (59, ptS ctxZ Try.f59), (60, ptS ctxZ Try.f60), (61, ptS ctxZ Try.f61), (63, ptS ctxZ Try.f63), (64, ptS ctxZ Try.f64)]
theorem lC : ListsOk Try.prog csrRows psC [] := .consP (.consP (.consP (.consP (.consP (.consP (.consP (.consP (.consP (.consP (.consP (.consP (.consP (.consP (.consP (.consP (.consP (.consP (.consP (.consP l0 f64_s) f63_s) f61_s) f60_s) f59_s) f58_s) f57_s) f56_s) f55_s) f54_s) f53_s) f44_s) f43_s) f42_s) f41_s) f40_s) f38_s) f46_s) f35_s) f71_s
noncomputable abbrev ctx0 : Ctx := mkCtx csrRows psC [] 0

theorem i31_s : SSound Try.prog csrRows 31 (inl ctx0 Try.f31) := inl_sound (lC.ctx 0) csr_mix (fn_is (by kernel_rfl) (by kernel_rfl))
theorem i33_s : SSound Try.prog csrRows 33 (inl ctx0 Try.f33) := inl_sound (lC.ctx 0) csr_mix (fn_is (by kernel_rfl) (by kernel_rfl))
theorem i37_s : SSound Try.prog csrRows 37 (inl ctx0 Try.f37) := inl_sound (lC.ctx 0) csr_mix (fn_is (by kernel_rfl) (by kernel_rfl))
theorem i39_s : SSound Try.prog csrRows 39 (inl ctx0 Try.f39) := inl_sound (lC.ctx 0) csr_mix (fn_is (by kernel_rfl) (by kernel_rfl))
theorem i48_s : SSound Try.prog csrRows 48 (inl ctx0 Try.f48) := inl_sound (lC.ctx 0) csr_mix (fn_is (by kernel_rfl) (by kernel_rfl))
theorem i49_s : SSound Try.prog csrRows 49 (inl ctx0 Try.f49) := inl_sound (lC.ctx 0) csr_mix (fn_is (by kernel_rfl) (by kernel_rfl))
theorem i50_s : SSound Try.prog csrRows 50 (inl ctx0 Try.f50) := inl_sound (lC.ctx 0) csr_mix (fn_is (by kernel_rfl) (by kernel_rfl))
theorem i51_s : SSound Try.prog csrRows 51 (inl ctx0 Try.f51) := inl_sound (lC.ctx 0) csr_mix (fn_is (by kernel_rfl) (by kernel_rfl))
theorem i52_s : SSound Try.prog csrRows 52 (inl ctx0 Try.f52) := inl_sound (lC.ctx 0) csr_mix (fn_is (by kernel_rfl) (by kernel_rfl))
theorem i62_s : SSound Try.prog csrRows 62 (inl ctx0 Try.f62) := inl_sound (lC.ctx 0) csr_mix (fn_is (by kernel_rfl) (by kernel_rfl))
theorem i65_s : SSound Try.prog csrRows 65 (inl ctx0 Try.f65) := inl_sound (lC.ctx 0) csr_mix (fn_is (by kernel_rfl) (by kernel_rfl))
theorem i74_s : SSound Try.prog csrRows 74 (inl ctx0 Try.f74) := inl_sound (lC.ctx 0) csr_mix (fn_is (by kernel_rfl) (by kernel_rfl))
theorem i75_s : SSound Try.prog csrRows 75 (inl ctx0 Try.f75) := inl_sound (lC.ctx 0) csr_mix (fn_is (by kernel_rfl) (by kernel_rfl))
noncomputable def ssA : List (Nat × Spec) := [(31, inl ctx0 Try.f31), (33, inl ctx0 Try.f33), (37, inl ctx0 Try.f37), (39, inl ctx0 Try.f39), (48, inl ctx0 Try.f48), (49, inl ctx0 Try.f49), (50, inl ctx0 Try.f50), (51, inl ctx0 Try.f51), (52, inl ctx0 Try.f52), (62, inl ctx0 Try.f62), (65, inl ctx0 Try.f65), (74, inl ctx0 Try.f74), (75, inl ctx0 Try.f75)]
theorem lA : ListsOk Try.prog csrRows psC ssA := .consS (.consS (.consS (.consS (.consS (.consS (.consS (.consS (.consS (.consS (.consS (.consS (.consS lC i75_s) i74_s) i65_s) i62_s) i52_s) i51_s) i50_s) i49_s) i48_s) i39_s) i37_s) i33_s) i31_s
noncomputable abbrev ctxA : Ctx := mkCtx csrRows psC ssA 0
theorem i32_s : SSound Try.prog csrRows 32 (inl ctxA Try.f32) := inl_sound (lA.ctx 0) csr_mix (fn_is (by kernel_rfl) (by kernel_rfl))
theorem i34_s : SSound Try.prog csrRows 34 (inl ctxA Try.f34) := inl_sound (lA.ctx 0) csr_mix (fn_is (by kernel_rfl) (by kernel_rfl))
theorem i36_s : SSound Try.prog csrRows 36 (inl ctxA Try.f36) := inl_sound (lA.ctx 0) csr_mix (fn_is (by kernel_rfl) (by kernel_rfl))
theorem i45_s : SSound Try.prog csrRows 45 (inl ctxA Try.f45) := inl_sound (lA.ctx 0) csr_mix (fn_is (by kernel_rfl) (by kernel_rfl))
theorem i47_s : SSound Try.prog csrRows 47 (inl ctxA Try.f47) := inl_sound (lA.ctx 0) csr_mix (fn_is (by kernel_rfl) (by kernel_rfl))
theorem i69_s : SSound Try.prog csrRows 69 (inl ctxA Try.f69) := inl_sound (lA.ctx 0) csr_mix (fn_is (by kernel_rfl) (by kernel_rfl))
theorem i70_s : SSound Try.prog csrRows 70 (inl ctxA Try.f70) := inl_sound (lA.ctx 0) csr_mix (fn_is (by kernel_rfl) (by kernel_rfl))
theorem i72_s : SSound Try.prog csrRows 72 (inl ctxA Try.f72) := inl_sound (lA.ctx 0) csr_mix (fn_is (by kernel_rfl) (by kernel_rfl))
theorem i73_s : SSound Try.prog csrRows 73 (inl ctxA Try.f73) := inl_sound (lA.ctx 0) csr_mix (fn_is (by kernel_rfl) (by kernel_rfl))
theorem i22_s : SSound Try.prog csrRows 22 (inl ctxA Try.f22) := inl_sound (lA.ctx 0) csr_mix (fn_is (by kernel_rfl) (by kernel_rfl))
noncomputable def ssB : List (Nat × Spec) := [(32, inl ctxA Try.f32), (34, inl ctxA Try.f34), (36, inl ctxA Try.f36), (45, inl ctxA Try.f45), (47, inl ctxA Try.f47), (69, inl ctxA Try.f69), (70, inl ctxA Try.f70), (72, inl ctxA Try.f72), (73, inl ctxA Try.f73), (22, inl ctxA Try.f22)] ++ ssA
theorem lB : ListsOk Try.prog csrRows psC ssB := .consS (.consS (.consS (.consS (.consS (.consS (.consS (.consS (.consS (.consS lA i22_s) i73_s) i72_s) i70_s) i69_s) i47_s) i45_s) i36_s) i34_s) i32_s

end Go.Mir

namespace Go.Mir
open Go.Proofs

set_option maxRecDepth 100000

noncomputable def psR : List (Nat × PSpec) := [(25, sThere), (26, sBit), (27, sIllegal), (28, sLay), (29, sRMove), (23, sReadOnly), (24, sCounted)] ++ psC
theorem lR : ListsOk Try.prog csrRows psR ssB :=
  .consP (.consP (.consP (.consP (.consP (.consP (.consP lB f24_s) f23_s) f29_s) f28_s) f27_s) f26_s) f25_s
noncomputable abbrev ctxR : Ctx := mkCtx csrRows psR ssB 0

def two {α : Type} (n a b : Int) (x y : α) : α := bif iEq n a then bif iEq n a then x else y else bif iEq n b then x else y
def tl {α : Type} (n : Int) (x y : α) : α := bif iLe 3857 n then bif bNot (iLe n 3860) then y else x else y
/-- Is there a register? By the program's table. -/
def last {α : Type} (n : Int) (x y : α) : α := bif iLe 928 n then bif iLe n 1007 then x else tl n x y else tl n x y
def tab {α : Type} (n : Int) (x y : α) : α :=
  bif iEq n 256 then x else
  bif iEq n 260 then x else
  bif iEq n 261 then x else
  bif iEq n 262 then x else
  bif iEq n 320 then x else
  bif iEq n 321 then x else
  bif iEq n 322 then x else
  bif iEq n 323 then x else
  bif iEq n 324 then x else
  bif iEq n 384 then x else
  bif iEq n 768 then x else
  bif iEq n 769 then x else
  bif iEq n 770 then x else
  bif iEq n 771 then x else
  bif iEq n 772 then x else
  bif iEq n 773 then x else
  bif iEq n 774 then x else
  bif iEq n 832 then x else
  bif iEq n 833 then x else
  bif iEq n 834 then x else
  bif iEq n 835 then x else
  bif iEq n 836 then x else
  two n 2816 3072 (x) (
  two n 2818 3074 (x) (
  bif iEq n 3073 then x else
  last n x y))
def bRead (h : Hart) (n t l : Int) : Int × Bool × Unit :=
  bif iEq n 256 then (iOr .u64 (iAnd .u64 h.mstatus 786722) 8589934592, true, ()) else
  bif iEq n 260 then (iAnd .u64 h.mie (delegated h), true, ()) else
  bif iEq n 261 then (h.stcc.addr, true, ()) else
  bif iEq n 262 then (iAnd .u64 h.scounteren 7, true, ()) else
  bif iEq n 320 then (iAnd .u64 h.sscratch 18446744073709551615, true, ()) else
  bif iEq n 321 then (h.sepcc.addr, true, ()) else
  bif iEq n 322 then (iAnd .u64 h.scause 18446744073709551615, true, ()) else
  bif iEq n 323 then (iAnd .u64 h.stval 18446744073709551615, true, ()) else
  bif iEq n 324 then (iAnd .u64 (mipV h (t, l, ())) (delegated h), true, ()) else
  bif iEq n 384 then (h.satp, true, ()) else
  bif iEq n 768 then (iOr .u64 (iOr .u64 (iAnd .u64 h.mstatus 8264106) 8589934592) 34359738368, true, ()) else
  bif iEq n 769 then (9223372036856090885, true, ()) else
  bif iEq n 770 then (iAnd .u64 h.medeleg 402699263, true, ()) else
  bif iEq n 771 then (iAnd .u64 h.mideleg 546, true, ()) else
  bif iEq n 772 then (iAnd .u64 h.mie 2730, true, ()) else
  bif iEq n 773 then (h.mtcc.addr, true, ()) else
  bif iEq n 774 then (iAnd .u64 h.mcounteren 7, true, ()) else
  bif iEq n 832 then (iAnd .u64 h.mscratch 18446744073709551615, true, ()) else
  bif iEq n 833 then (h.mepcc.addr, true, ()) else
  bif iEq n 834 then (iAnd .u64 h.mcause 18446744073709551615, true, ()) else
  bif iEq n 835 then (iAnd .u64 h.mtval 18446744073709551615, true, ()) else
  bif iEq n 836 then (mipV h (t, l, ()), true, ()) else
  two n 2816 3072 ((iAnd .u64 h.cycle 18446744073709551615, true, ())) (
  two n 2818 3074 ((iAnd .u64 h.instret 18446744073709551615, true, ())) (
  bif iEq n 3073 then (t, true, ()) else
  last n (0, true, ()) (0, false, ())))
def rRead (h : Hart) (n t l : Int) : Int × Bool × Unit :=
  bif iEq n 256 then (iAdd .u64 (iAnd .u64 h.mstatus 786722) 8589934592, true, ()) else
  bif iEq n 260 then (iAnd .u64 (iAnd .u64 h.mie h.mideleg) 546, true, ()) else
  bif iEq n 261 then (h.stcc.addr, true, ()) else
  bif iEq n 262 then (iRem h.scounteren 8, true, ()) else
  bif iEq n 320 then (h.sscratch, true, ()) else
  bif iEq n 321 then (h.sepcc.addr, true, ()) else
  bif iEq n 322 then (h.scause, true, ()) else
  bif iEq n 323 then (h.stval, true, ()) else
  bif iEq n 324 then (iAnd .u64 (iAnd .u64 (iOr .u64 (iAnd .u64 h.mip 546) (iAnd .u64 l 2730)) h.mideleg) 546, true, ()) else
  bif iEq n 384 then (h.satp, true, ()) else
  bif iEq n 768 then (iAdd .u64 (iAdd .u64 (iAnd .u64 h.mstatus 8264106) 8589934592) 34359738368, true, ()) else
  bif iEq n 769 then (9223372036856090885, true, ()) else
  bif iEq n 770 then (iAnd .u64 h.medeleg 402699263, true, ()) else
  bif iEq n 771 then (iAnd .u64 h.mideleg 546, true, ()) else
  bif iEq n 772 then (iAnd .u64 h.mie 2730, true, ()) else
  bif iEq n 773 then (h.mtcc.addr, true, ()) else
  bif iEq n 774 then (iRem h.mcounteren 8, true, ()) else
  bif iEq n 832 then (h.mscratch, true, ()) else
  bif iEq n 833 then (h.mepcc.addr, true, ()) else
  bif iEq n 834 then (h.mcause, true, ()) else
  bif iEq n 835 then (h.mtval, true, ()) else
  bif iEq n 836 then (iOr .u64 (iAnd .u64 h.mip 546) (iAnd .u64 l 2730), true, ()) else
  two n 2816 3072 ((h.cycle, true, ())) (
  two n 2818 3074 ((h.instret, true, ())) (
  bif iEq n 3073 then (t, true, ()) else
  (0, there n, ())))
def sRead : PSpec := pspec csrRows [.p .hart, .v i64, .v u64, .v u64] (.tu [u64, .bo]) (fun _ => []) fun x => bRead x.1 x.2.1 x.2.2.1 x.2.2.2.1
theorem f12_s : PSound Try.prog csrRows 12 sRead :=
  see_clean (fn := Try.f12) (lR.ctx 0) csr_mix (fn_is (by kernel_rfl) (by kernel_rfl)) (fun x => by kernel_rfl) (fun x => by kernel_rfl) fun x => by kernel_rfl
def sRRead : PSpec := pspec csrRows [.p .hart, .v i64, .v u64, .v u64] (.tu [u64, .bo]) (fun _ => []) fun x => rRead x.1 x.2.1 x.2.2.1 x.2.2.2.1
theorem f13_s : PSound Try.prog csrRows 13 sRRead :=
  see_clean (fn := Try.f13) (lR.ctx 0) csr_mix (fn_is (by kernel_rfl) (by kernel_rfl)) (fun x => by kernel_rfl) (fun x => by kernel_rfl) fun x => by kernel_rfl

def ill : Trap := ⟨true, 2, 0⟩
def noTrap : Trap := ⟨false, 0, 0⟩
def byPcc : Trap := ⟨true, 28, 1048⟩
def lvl (n : Int) : Int := iAnd .i64 (iShr .i64 n 8) 3
def mayEnd (h : Hart) (n : Int) : Trap := bif iLt 0 (lvl n) then bif iEq (iAnd .i64 h.pcc.perms 512) 0 then byPcc else noTrap else noTrap
def mayCnt (h : Hart) (n : Int) : Trap := bif iLe 3072 n then bif iLe n 3074 then bif counted h n then ill else mayEnd h n else mayEnd h n else mayEnd h n
def mayRest (h : Hart) (n : Int) : Trap := bif iEq n 384 then bif iEq h.priv 1 then bif bNot (iEq (iAnd .u64 h.mstatus 1048576) 0) then ill else mayCnt h n else mayCnt h n else mayCnt h n
def mayT (h : Hart) (n : Int) (w : Bool) : Trap :=
  bif iLt h.priv (lvl n) then bif iLt h.priv (lvl n) then ill else mayRest h n else bif w then bif readOnly n then ill else mayRest h n else mayRest h n
def bMay (h : Hart) (n : Int) (w : Bool) : Trap := tab n (mayT h n w) ill

def rLvl (n : Int) : Int := iRem (iQuo .i64 n 256) 4
def rMayEnd (h : Hart) (n : Int) : Trap := bif bNot (iEq (rLvl n) 0) then bif iEq (iRem (iQuo .i64 h.pcc.perms 512) 2) 0 then byPcc else noTrap else noTrap
def rMayS (h : Hart) (n : Int) : Trap := bif iEq h.priv 0 then bif bNot (rBit h.scounteren (iSub .i64 n 3072)) then ill else rMayEnd h n else rMayEnd h n
def rMayCnt (h : Hart) (n : Int) : Trap :=
  bif iLe 3072 n then bif iLe n 3074 then bif iLt h.priv 3 then bif bNot (rBit h.mcounteren (iSub .i64 n 3072)) then ill else rMayS h n else rMayS h n else rMayEnd h n else rMayEnd h n
def rMayRest (h : Hart) (n : Int) : Trap := bif iEq n 384 then bif iEq h.priv 1 then bif rBit h.mstatus 20 then ill else rMayCnt h n else rMayCnt h n else rMayCnt h n
def rMay (h : Hart) (n : Int) (w : Bool) : Trap :=
  bif bNot (there n) then ill else bif iLt h.priv (rLvl n) then ill else bif w then bif iEq (iQuo .i64 n 1024) 3 then ill else rMayRest h n else rMayRest h n

def mayEndT (h : Hart) (n : Int) : T Trap := .br (iLt 0 (lvl n)) (.br (iEq (iAnd .i64 h.pcc.perms 512) 0) (.ret byPcc) (.ret noTrap)) (.ret noTrap)
def mayCntT (h : Hart) (n : Int) : T Trap := .br (iLe 3072 n) (.br (iLe n 3074) (.br (counted h n) (.ret ill) (mayEndT h n)) (mayEndT h n)) (mayEndT h n)
def mayRestT (h : Hart) (n : Int) : T Trap := .br (iEq n 384) (.br (iEq h.priv 1) (.br (bNot (iEq (iAnd .u64 h.mstatus 1048576) 0)) (.ret ill) (mayCntT h n)) (mayCntT h n)) (mayCntT h n)
def mayTT (h : Hart) (n : Int) (w : Bool) : T Trap :=
  .br (iLt h.priv (lvl n)) (.br (iLt h.priv (lvl n)) (.ret ill) (mayRestT h n)) (.br w (.br (readOnly n) (.ret ill) (mayRestT h n)) (mayRestT h n))
def T2 {α : Type} (n a b : Int) (x y : T α) : T α := .br (iEq n a) (.br (iEq n a) x y) (.br (iEq n b) x y)
def tlT {α : Type} (n : Int) (x y z : T α) : T α := .br (iLe 3857 n) (.br (bNot (iLe n 3860)) (.br (bNot (iLe n 3860)) y z) x) y
def lastT {α : Type} (n : Int) (x y z : T α) : T α := .br (iLe 928 n) (.br (iLe n 1007) x (tlT n x y z)) (tlT n x y z)
def tabT {α : Type} (n : Int) (x y z : T α) : T α := .br (iEq n 256) x (
  .br (iEq n 260) x (
  .br (iEq n 261) x (
  .br (iEq n 262) x (
  .br (iEq n 320) x (
  .br (iEq n 321) x (
  .br (iEq n 322) x (
  .br (iEq n 323) x (
  .br (iEq n 324) x (
  .br (iEq n 384) x (
  .br (iEq n 768) x (
  .br (iEq n 769) x (
  .br (iEq n 770) x (
  .br (iEq n 771) x (
  .br (iEq n 772) x (
  .br (iEq n 773) x (
  .br (iEq n 774) x (
  .br (iEq n 832) x (
  .br (iEq n 833) x (
  .br (iEq n 834) x (
  .br (iEq n 835) x (
  .br (iEq n 836) x (
  T2 n 2816 3072 x (T2 n 2818 3074 x (.br (iEq n 3073) x (lastT n x y z)))))))))))))))))))))))))
def sMay : PSpec := pspec csrRows [.p .hart, .v i64, .v .bo] (.one .trap) (fun _ => []) fun x => bMay x.1 x.2.1 x.2.2.1
def gMay (h : Hart) (n : Int) (w : Bool) : T Trap := tabT n (mayTT h n w) (.ret ill) (mayRestT h n)
theorem gMay_c (h : Hart) (n : Int) (w : Bool) : (gMay h n w).clean = true := by kernel_rfl
theorem mayTT_v (h : Hart) (n : Int) (w : Bool) : (mayTT h n w).val = mayT h n w := rfl
theorem tabT_v {α : Type} [Inhabited α] (n : Int) (x y z : T α) : (tabT n x y z).val = tab n x.val y.val := by
  have ht : (tlT n x y z).val = tl n x.val y.val := by
    unfold tlT tl
    simp only [T.val]
    cases iLe 3857 n <;> cases bNot (iLe n 3860) <;> rfl
  have hl : (lastT n x y z).val = last n x.val y.val := by
    unfold lastT last
    simp only [T.val, ht]
  have h2 : ∀ (a b : Int) (x y : T α), (T2 n a b x y).val = two n a b x.val y.val := fun a b x y => by
    unfold T2 two
    simp only [T.val]
  unfold tabT tab
  simp only [T.val, hl, h2]
theorem gMay_v (h : Hart) (n : Int) (w : Bool) : (gMay h n w).val = bMay h n w := by
  unfold gMay bMay
  rw [tabT_v, mayTT_v]
  rfl
theorem f10_s : PSound Try.prog csrRows 10 sMay :=
  txt_sound (fn := Try.f10) (l := [.p .hart, .v i64, .v .bo]) (re := .one .trap) (lR.ctx 0) csr_mix (fun x => gMay x.1 x.2.1 x.2.2.1) (fn_is (by kernel_rfl) (by kernel_rfl)) (fun x => by kernel_rfl) fun x _ => T.holds_of (gMay_c _ _ _) (gMay_v _ _ _)
def sRMay : PSpec := pspec csrRows [.p .hart, .v i64, .v .bo] (.one .trap) (fun _ => []) fun x => rMay x.1 x.2.1 x.2.2.1
theorem f11_s : PSound Try.prog csrRows 11 sRMay :=
  see_clean (fn := Try.f11) (lR.ctx 0) csr_mix (fn_is (by kernel_rfl) (by kernel_rfl)) (fun x => by kernel_rfl) (fun x => by kernel_rfl) fun x => by kernel_rfl

noncomputable def wDef : Bool × Hart × Unit := ((Re.inh (.one .bo)).default, (Objs.inh [.p .hart, .v i64, .v u64]).default)
abbrev Wr : Type := Bool × Hart × Unit
def no_ (h : Hart) : Wr := (false, h, ())
noncomputable def bWrite (h : Hart) (n t : Int) : Wr :=
  bif iEq n 256 then bif readOnly n then no_ h else (true, { h with mstatus := iOr .u64 (iAndNot .u64 h.mstatus 786722) (iAnd .u64 t 786722) }, ()) else
  bif iEq n 260 then bif readOnly n then no_ h else (true, { h with mie := iOr .u64 (iAndNot .u64 h.mie (delegated h)) (iAnd .u64 t (delegated h)) }, ()) else
  bif iEq n 261 then bif readOnly n then no_ h else (true, { h with stcc := bMove h.stcc (iAndNot .u64 t 2) }, ()) else
  bif iEq n 262 then bif readOnly n then no_ h else (true, { h with scounteren := iAnd .u64 t 7 }, ()) else
  bif iEq n 320 then bif readOnly n then no_ h else (true, { h with sscratch := iAnd .u64 t 18446744073709551615 }, ()) else
  bif iEq n 321 then bif readOnly n then no_ h else (true, { h with sepcc := bMove h.sepcc (iAndNot .u64 t 1) }, ()) else
  bif iEq n 322 then bif readOnly n then no_ h else (true, { h with scause := iAnd .u64 t 18446744073709551615 }, ()) else
  bif iEq n 323 then bif readOnly n then no_ h else (true, { h with stval := iAnd .u64 t 18446744073709551615 }, ()) else
  bif iEq n 324 then bif readOnly n then no_ h else (true, { h with mip := iOr .u64 (iAndNot .u64 h.mip (iAnd .u64 2 h.mideleg)) (iAnd .u64 t (iAnd .u64 2 h.mideleg)) }, ()) else
  bif iEq n 384 then bif readOnly n then no_ h else bif iEq (iShr .u64 t 60) 0 then (true, { h with satp := t }, ()) else bif iEq (iShr .u64 t 60) 8 then (true, { h with satp := t }, ()) else (true, h, ()) else
  bif iEq n 768 then bif readOnly n then no_ h else bif iEq (iAnd .u64 (iShr .u64 (iAnd .u64 t 8264106) 11) 3) 2 then (true, { h with mstatus := iAndNot .u64 (iAnd .u64 t 8264106) 6144 }, ()) else (true, { h with mstatus := iAnd .u64 t 8264106 }, ()) else
  bif iEq n 769 then bif readOnly n then no_ h else (true, h, ()) else
  bif iEq n 770 then bif readOnly n then no_ h else (true, { h with medeleg := iAnd .u64 t 402699263 }, ()) else
  bif iEq n 771 then bif readOnly n then no_ h else (true, { h with mideleg := iAnd .u64 t 546 }, ()) else
  bif iEq n 772 then bif readOnly n then no_ h else (true, { h with mie := iAnd .u64 t 2730 }, ()) else
  bif iEq n 773 then bif readOnly n then no_ h else (true, { h with mtcc := bMove h.mtcc (iAndNot .u64 t 2) }, ()) else
  bif iEq n 774 then bif readOnly n then no_ h else (true, { h with mcounteren := iAnd .u64 t 7 }, ()) else
  bif iEq n 832 then bif readOnly n then no_ h else (true, { h with mscratch := iAnd .u64 t 18446744073709551615 }, ()) else
  bif iEq n 833 then bif readOnly n then no_ h else (true, { h with mepcc := bMove h.mepcc (iAndNot .u64 t 1) }, ()) else
  bif iEq n 834 then bif readOnly n then no_ h else (true, { h with mcause := iAnd .u64 t 18446744073709551615 }, ()) else
  bif iEq n 835 then bif readOnly n then no_ h else (true, { h with mtval := iAnd .u64 t 18446744073709551615 }, ()) else
  bif iEq n 836 then bif readOnly n then no_ h else (true, { h with mip := iAnd .u64 t 546 }, ()) else
  two n 2816 3072 (bif readOnly n then no_ h else (true, { h with cycle := iAnd .u64 t 18446744073709551615 }, ())) (
  two n 2818 3074 (bif readOnly n then no_ h else (true, { h with instret := iAnd .u64 t 18446744073709551615 }, ())) (
  bif iEq n 3073 then bif readOnly n then no_ h else wDef else
  last n (bif readOnly n then no_ h else (true, h, ())) (no_ h)))
def rWr (h : Hart) (n t : Int) : Wr :=
  bif iEq n 256 then (true, { h with mstatus := rLay h.mstatus t 786722 }, ()) else
  bif iEq n 260 then (true, { h with mie := rLay h.mie t (iAnd .u64 h.mideleg 546) }, ()) else
  bif iEq n 261 then (true, { h with stcc := rMove h.stcc (iSub .u64 t (iAnd .u64 t 2)) }, ()) else
  bif iEq n 262 then (true, { h with scounteren := iRem t 8 }, ()) else
  bif iEq n 320 then (true, { h with sscratch := t }, ()) else
  bif iEq n 321 then (true, { h with sepcc := rMove h.sepcc (iSub .u64 t (iRem t 2)) }, ()) else
  bif iEq n 322 then (true, { h with scause := t }, ()) else
  bif iEq n 323 then (true, { h with stval := t }, ()) else
  bif iEq n 324 then (true, { h with mip := rLay h.mip t (iAnd .u64 h.mideleg 2) }, ()) else
  bif iEq n 384 then bif iEq (iShr .u64 t 60) 0 then (true, { h with satp := t }, ()) else bif iEq (iShr .u64 t 60) 8 then (true, { h with satp := t }, ()) else (true, h, ()) else
  bif iEq n 768 then bif iEq (iRem (iShr .u64 t 11) 4) 2 then (true, { h with mstatus := iAnd .u64 t 8257962 }, ()) else (true, { h with mstatus := iAnd .u64 t 8264106 }, ()) else
  bif iEq n 770 then (true, { h with medeleg := iAnd .u64 t 402699263 }, ()) else
  bif iEq n 771 then (true, { h with mideleg := iAnd .u64 t 546 }, ()) else
  bif iEq n 772 then (true, { h with mie := iAnd .u64 t 2730 }, ()) else
  bif iEq n 773 then (true, { h with mtcc := rMove h.mtcc (iSub .u64 t (iAnd .u64 t 2)) }, ()) else
  bif iEq n 774 then (true, { h with mcounteren := iRem t 8 }, ()) else
  bif iEq n 832 then (true, { h with mscratch := t }, ()) else
  bif iEq n 833 then (true, { h with mepcc := rMove h.mepcc (iSub .u64 t (iRem t 2)) }, ()) else
  bif iEq n 834 then (true, { h with mcause := t }, ()) else
  bif iEq n 835 then (true, { h with mtval := t }, ()) else
  bif iEq n 836 then (true, { h with mip := iAnd .u64 t 546 }, ()) else
  bif iEq n 2816 then (true, { h with cycle := t }, ()) else
  bif iEq n 2818 then (true, { h with instret := t }, ()) else
  (true, h, ())
def rWrite (h : Hart) (n t : Int) : Wr := bif bNot (there n) then no_ h else bif iEq (iQuo .i64 n 1024) 3 then no_ h else rWr h n t
def wNeed (h : Hart) (n : Int) : Prop := (iEq n 256 = false → (iEq n 260 = false → ((iEq n 261 = true → readOnly n = false → eOk h.stcc) ∧ (iEq n 261 = false → (iEq n 262 = false → (iEq n 320 = false → ((iEq n 321 = true → readOnly n = false → eOk h.sepcc) ∧ (iEq n 321 = false → (iEq n 322 = false → (iEq n 323 = false → (iEq n 324 = false → (iEq n 384 = false → (iEq n 768 = false → (iEq n 769 = false → (iEq n 770 = false → (iEq n 771 = false → (iEq n 772 = false → ((iEq n 773 = true → readOnly n = false → eOk h.mtcc) ∧ (iEq n 773 = false → (iEq n 774 = false → (iEq n 832 = false → ((iEq n 833 = true → readOnly n = false → eOk h.mepcc) ∧ (iEq n 833 = false → (iEq n 834 = false → (iEq n 835 = false → (iEq n 836 = false → ((iEq n 2816 = true → iEq n 2816 = false → ((iEq n 2818 = true → iEq n 2818 = false → (iEq n 3073 = true → readOnly n = false → False)) ∧ (iEq n 2818 = false → iEq n 3074 = false → (iEq n 3073 = true → readOnly n = false → False)))) ∧ (iEq n 2816 = false → iEq n 3072 = false → ((iEq n 2818 = true → iEq n 2818 = false → (iEq n 3073 = true → readOnly n = false → False)) ∧ (iEq n 2818 = false → iEq n 3074 = false → (iEq n 3073 = true → readOnly n = false → False)))))))))))))))))))))))))))))))
def rNeed (h : Hart) (n : Int) : Prop := bNot (there n) = false → iEq (iQuo .i64 n 1024) 3 = false → (iEq n 256 = false → (iEq n 260 = false → ((iEq n 261 = true → eOk h.stcc) ∧ (iEq n 261 = false → (iEq n 262 = false → (iEq n 320 = false → ((iEq n 321 = true → eOk h.sepcc) ∧ (iEq n 321 = false → (iEq n 322 = false → (iEq n 323 = false → (iEq n 324 = false → (iEq n 384 = false → (iEq n 768 = false → (iEq n 770 = false → (iEq n 771 = false → (iEq n 772 = false → ((iEq n 773 = true → eOk h.mtcc) ∧ (iEq n 773 = false → (iEq n 774 = false → (iEq n 832 = false → (iEq n 833 = true → eOk h.mepcc)))))))))))))))))))))

/-- A hart whose four capabilities with addresses of registers have exponents. -/
def fourOk (h : Hart) : Prop := eOk h.stcc ∧ eOk h.sepcc ∧ eOk h.mtcc ∧ eOk h.mepcc

theorem readOnly_3073 : readOnly 3073 = true := by
  unfold readOnly
  rw [iEq_t, show (10 : Int) = ((10 : Nat) : Int) from rfl, iShr_n _ _ 10 (by decide), iAnd_i_low _ 2 (by decide) (by decide)]
  decide

theorem wNeed_of {h : Hart} (n : Int) (hh : fourOk h) : wNeed h n := by
  obtain ⟨h1, h2, h3, h4⟩ := hh
  have h5 : iEq n 3073 = true → readOnly n = false → False := fun a b => by
    rw [iEq_t] at a; subst a; rw [readOnly_3073] at b; cases b
  unfold wNeed
  repeat (first | exact h1 | exact h2 | exact h3 | exact h4 | exact h5 | intro _ | apply And.intro)

theorem rNeed_of {h : Hart} (n : Int) (hh : fourOk h) : rNeed h n := by
  obtain ⟨h1, h2, h3, h4⟩ := hh
  unfold rNeed
  repeat (first | exact h1 | exact h2 | exact h3 | exact h4 | intro _ | apply And.intro)

noncomputable def sWrite : Spec := mspec csrRows [.p .hart, .v i64, .v u64] (.one .bo) (fun x => [fourOk x.1]) fun x => bWrite x.1 x.2.1 x.2.2.1
theorem f14_s : SSound Try.prog csrRows 14 sWrite :=
  mut_sound (fn := Try.f14) (lR.ctx 0) csr_mix (fn_is (by kernel_rfl) (by kernel_rfl)) (fun x _ => by kernel_rfl) fun x hx => T.ok_req (by
    rw [show (runT (mkCtx csrRows psR ssB 0) Try.f14 [.p .hart, .v i64, .v u64] (.one .bo) x).req = wNeed x.1 x.2.1 by kernel_rfl]
    exact wNeed_of _ (hx _ (List.mem_singleton.2 rfl)))
noncomputable def sRWrite : Spec := mspec csrRows [.p .hart, .v i64, .v u64] (.one .bo) (fun x => [fourOk x.1]) fun x => rWrite x.1 x.2.1 x.2.2.1
theorem f15_s : SSound Try.prog csrRows 15 sRWrite :=
  mut_sound (fn := Try.f15) (lR.ctx 0) csr_mix (fn_is (by kernel_rfl) (by kernel_rfl)) (fun x _ => by kernel_rfl) fun x hx => T.ok_req (by
    rw [show (runT (mkCtx csrRows psR ssB 0) Try.f15 [.p .hart, .v i64, .v u64] (.one .bo) x).req = rNeed x.1 x.2.1 by kernel_rfl]
    exact rNeed_of _ (hx _ (List.mem_singleton.2 rfl)))

end Go.Mir

namespace Go.Mir
open Go.Proofs

set_option maxRecDepth 100000

noncomputable def psL : List (Nat × PSpec) := [(10, sMay), (11, sRMay), (12, sRead), (13, sRRead), (16, sRoot), (8, sHartRight), (21, sNumber)] ++ psR
noncomputable def ssL : List (Nat × Spec) := [(14, sWrite), (15, sRWrite)] ++ ssB
theorem lL : ListsOk Try.prog csrRows psL ssL :=
  .consP (.consP (.consP (.consP (.consP (.consP (.consP (.consS (.consS lR f15_s) f14_s) f21_s) f8_s) f16_s) f13_s) f12_s) f11_s) f10_s

def ofV (h : Hart) (n : Int) : Int := (bRead h n 5 0).1
def sOf17 : PSpec := pspec csrRows [.p .hart, .v i64] (.one u64) (fun _ => []) fun x => ofV x.1 x.2.1
theorem f17_s : PSound Try.prog csrRows 17 sOf17 :=
  see_clean (fn := Try.f17) (lL.ctx 0) csr_mix (fn_is (by kernel_rfl) (by kernel_rfl)) (fun x => by kernel_rfl) (fun x => by kernel_rfl) fun x => by kernel_rfl

noncomputable def machine : Hart := (fnVal (mkCtx csrRows psL ssL 34) Try.f19 [] (.one .hart) ()).1
noncomputable def sMachine : PSpec := pspec csrRows [] (.one .hart) (fun _ => []) fun _ => machine
theorem f19_c (x : Ins []) : (runT (mkCtx csrRows psL ssL 34) Try.f19 [] (.one .hart) x).clean = true := by kernel_rfl
theorem f19_s : PSound Try.prog csrRows 19 sMachine :=
  pure_clean (fn := Try.f19) (l := []) (re := .one .hart) (lL.ctx 34) csr_mix rfl (fn_is (by kernel_rfl) (by kernel_rfl)) val_fst f19_c

end Go.Mir

namespace Go.Mir
open Go.Proofs

set_option maxRecDepth 100000

def alL : List (Int × Int) → Int → Int → Bool
  | [], n, m => iEq n m
  | p :: l, n, m => bif iEq p.1 n then bif iEq p.2 m then true else alL l n m else alL l n m
def alT : List (Int × Int) → Int → Int → T Bool
  | [], n, m => .ret (iEq n m)
  | p :: l, n, m => .br (iEq p.1 n) (.br (iEq p.2 m) (.ret true) (alT l n m)) (alT l n m)
theorem alT_h : ∀ (l : List (Int × Int)) (n m : Int), (alT l n m).holds fun r => r = alL l n m
  | [], n, m => rfl
  | p :: l, n, m => by
    have := alT_h l n m
    unfold alT alL
    refine ⟨fun h1 => ⟨fun h2 => ?_, fun h2 => ?_⟩, fun h1 => ?_⟩
    · rw [h1, h2]; rfl
    · rw [h1, h2]; exact this
    · rw [h1]; exact this
def als : List (Int × Int) := [(0x100, 0x300), (0x104, 0x304), (0x144, 0x344), (0x300, 0x100), (0x304, 0x104), (0x344, 0x144), (0x303, 0x104), (0x303, 0x144), (0xB00, 0xC00), (0xB02, 0xC02)]
def sAliases : PSpec := pspec csrRows [.v i64, .v i64] (.one .bo) (fun _ => []) fun x => alL als x.1 x.2.1
theorem f18_s : PSound Try.prog csrRows 18 sAliases :=
  txt_sound (fn := Try.f18) (l := [.v i64, .v i64]) (re := .one .bo) (l0.ctx 12) csr_mix (fun x => alT als x.1 x.2.1) (fn_is (by kernel_rfl) (by kernel_rfl)) (fun x => by kernel_rfl) fun x _ => alT_h _ _ _


end Go.Mir

namespace Go.Mir
open Go.Proofs

set_option maxRecDepth 100000

noncomputable def psM : List (Nat × PSpec) := [(19, sMachine), (17, sOf17), (18, sAliases)] ++ psL
theorem lM : ListsOk Try.prog csrRows psM ssL := .consP (.consP (.consP lL f18_s) f17_s) f19_s
noncomputable def m1 : Hart := (bWrite machine 768 18446744073709551615).2.1
noncomputable def m2 : Hart := (bWrite m1 768 4096).2.1
noncomputable def m3 : Hart := (bWrite m2 773 2147483651).2.1
theorem eOk52 {c : Cap} (h : c.e = 52) : eOk c := by unfold eOk; omega
theorem fourOk52 {h : Hart} (h1 : h.stcc.e = 52) (h2 : h.sepcc.e = 52) (h3 : h.mtcc.e = 52) (h4 : h.mepcc.e = 52) : fourOk h := ⟨eOk52 h1, eOk52 h2, eOk52 h3, eOk52 h4⟩
theorem f9_okv : (runT (mkCtx csrRows psM ssL 0) Try.f9 [] (.one .bo) ()).okv (fun r => r.1 = true) = (fourOk machine ∧ fourOk m1 ∧ fourOk m2 ∧ fourOk m3 ∧ true = true) := by kernel_rfl
theorem f9_h : (runT (mkCtx csrRows psM ssL 0) Try.f9 [] (.one .bo) ()).holds fun r => r.1 = true :=
  T.okv_holds (cast f9_okv.symm ⟨fourOk52 (by kernel_rfl) (by kernel_rfl) (by kernel_rfl) (by kernel_rfl), fourOk52 (by kernel_rfl) (by kernel_rfl) (by kernel_rfl) (by kernel_rfl), fourOk52 (by kernel_rfl) (by kernel_rfl) (by kernel_rfl) (by kernel_rfl),
    fourOk52 (by kernel_rfl) (by kernel_rfl) (by kernel_rfl) (by kernel_rfl), rfl⟩)
def sWorks : PSpec := pspec csrRows [] (.one .bo) (fun _ => []) fun _ => true
theorem f9_s : PSound Try.prog csrRows 9 sWorks :=
  pspec_sound (fn := Try.f9) (l := []) (re := .one .bo) (lM.ctx 0) csr_mix (fn_is (by kernel_rfl) (by kernel_rfl)) fun _ _ => T.holds_mono (Q := fun r => r.1 = true) (fun r hr => by obtain ⟨a, b⟩ := r; cases hr; rfl) f9_h

noncomputable def psT : List (Nat × PSpec) := [(9, sWorks)] ++ psM
theorem lT : ListsOk Try.prog csrRows psT ssL := .consP lM f9_s

end Go.Mir

namespace Go.Mir

/-- A number modulo 2^65, in two parts. -/
def enc (n : Int) : Wd := (n / 18446744073709551616 % 2, n % 18446744073709551616, ())

theorem enc_congr {n m : Int} (h : n % 36893488147419103232 = m % 36893488147419103232) : enc n = enc m := by
  unfold enc
  rw [show n / 18446744073709551616 % 2 = m / 18446744073709551616 % 2 by omega, show n % 18446744073709551616 = m % 18446744073709551616 by omega]

theorem enc_parts {h l : Int} (hh : h = 0 ∨ h = 1) (hl : inU l) : ((h, l, ()) : Wd) = enc (h * 18446744073709551616 + l) := by
  unfold inU at hl
  unfold enc
  rw [show (h * 18446744073709551616 + l) / 18446744073709551616 % 2 = h by omega, show (h * 18446744073709551616 + l) % 18446744073709551616 = l by omega]

theorem signed_enc {v : Int} (h : inI v) : signed v = enc v := by
  unfold inI at h
  unfold signed enc
  rw [show (63 : Int) = ((63 : Nat) : Int) from rfl, iShr_n _ _ 63 (by decide), iCv_u]
  rw [show v % 18446744073709551616 / 2 ^ 63 = v / 18446744073709551616 % 2 by omega]

theorem small_enc {m : Int} (h : inU m) : ((0, iCv .u64 m, ()) : Wd) = enc m := by
  unfold inU at h
  unfold enc
  rw [iCv_u, show m / 18446744073709551616 % 2 = 0 by omega]

theorem upW_enc (x : Int) (n : Nat) : upW (enc x) n = enc (x * 2 ^ n) := by
  unfold upW
  by_cases h0 : n = 0
  · subst h0; rw [show iEq ((0 : Nat) : Int) 0 = true from iEq_t.2 rfl]; simp
  · rw [show iEq (n : Int) 0 = false from iEq_f.2 (by omega)]
    by_cases h1 : 65 ≤ n
    · rw [show iLe 65 (n : Int) = true from iLe_t.2 (by omega)]
      obtain ⟨k, rfl⟩ : ∃ k, n = 65 + k := ⟨n - 65, by omega⟩
      have : x * 2 ^ (65 + k) = (x * 2 ^ k) * 36893488147419103232 := by rw [Int.pow_add, ← Int.mul_assoc, Int.mul_right_comm]; rfl
      rw [this]
      generalize x * 2 ^ k = y
      simp only [cond_false, cond_true]
      exact enc_congr (n := 0) (by omega)
    · rw [show iLe 65 (n : Int) = false from iLe_f.2 (by omega)]
      by_cases h2 : n = 64
      · subst h2
        rw [show iEq ((64 : Nat) : Int) 64 = true from iEq_t.2 rfl]
        simp only [cond_false, cond_true]
        unfold enc
        rw [iAnd_u_low _ 1 (by decide) (by decide)]
        simp only []
        rw [show x % 18446744073709551616 % 2 ^ 1 = x * 2 ^ 64 / 18446744073709551616 % 2 by omega, show (0 : Int) = x * 2 ^ 64 % 18446744073709551616 by omega]
      · rw [show iEq (n : Int) 64 = false from iEq_f.2 (by omega)]
        simp only [cond_false]
        have hs : iSub .i64 64 (n : Int) = ((64 - n : Nat) : Int) := by rw [iSub_i (by omega) (by omega)]; omega
        rw [hs, iShr_n _ _ _ (show 64 - n ≤ 64 by omega), iShl_u _ _ (by omega), iAnd_u_low _ 1 (by decide) (by decide)]
        obtain ⟨k, hk⟩ : ∃ k, n = k + 1 := ⟨n - 1, by omega⟩
        have hP : (2 : Int) ^ n = 2 * 2 ^ k := by rw [hk, Int.pow_succ]; omega
        have hE : (18446744073709551616 : Int) = 2 ^ n * 2 ^ (64 - n) := by rw [← Int.pow_add, show n + (64 - n) = 64 by omega]; rfl
        have hQ : (0 : Int) < 2 ^ (64 - n) := Int.pow_pos (by decide)
        have hPp : (0 : Int) < 2 ^ n := Int.pow_pos (by decide)
        unfold enc
        simp only []
        have e1 : x * 2 ^ n / 18446744073709551616 = x / 2 ^ (64 - n) := by
          rw [hE, Int.mul_comm, Int.mul_ediv_mul_of_pos _ _ hPp]
        have e2 : x / 2 ^ (64 - n) = 2 ^ n * (x / 18446744073709551616) + x % 18446744073709551616 / 2 ^ (64 - n) := by
          have := Int.mul_ediv_add_emod x 18446744073709551616
          conv => lhs; rw [← this]
          rw [show 18446744073709551616 * (x / 18446744073709551616) = (2 ^ n * (x / 18446744073709551616)) * 2 ^ (64 - n) by
            conv => lhs; lhs; rw [hE]
            rw [Int.mul_right_comm]]
          rw [Int.add_comm, Int.add_mul_ediv_right _ _ (Int.ne_of_gt hQ), Int.add_comm]
        rw [e1, e2, hP]
        have e3 : (2 * 2 ^ k * (x / 18446744073709551616) + x % 18446744073709551616 / 2 ^ (64 - n)) % 2 = x % 18446744073709551616 / 2 ^ (64 - n) % 2 ^ 1 := by
          rw [Int.mul_assoc]; generalize 2 ^ k * (x / 18446744073709551616) = u; omega
        have e4 : x % 18446744073709551616 * (2 * 2 ^ k) % 18446744073709551616 = x * (2 * 2 ^ k) % 18446744073709551616 := by
          rw [Int.mul_emod, Int.emod_emod, ← Int.mul_emod]
        rw [e3, e4]

theorem plus_enc (a b : Int) : plus (enc a) (enc b) = enc (a + b) := by
  unfold plus enc
  simp only []
  rw [iAnd_u_low _ 1 (by decide) (by decide), iAdd_u, iAdd_u]
  unfold addHi addLo
  rw [show ((a / 18446744073709551616 % 2 + b / 18446744073709551616 % 2) % 18446744073709551616 + (a % 18446744073709551616 + b % 18446744073709551616 + 0) / 18446744073709551616) % 18446744073709551616 % 2 ^ 1 = (a + b) / 18446744073709551616 % 2 by omega,
    show (a % 18446744073709551616 + b % 18446744073709551616 + 0) % 18446744073709551616 = (a + b) % 18446744073709551616 by omega]

theorem refAdd_enc (a b : Int) : refAdd (enc a) (enc b) = enc (a + b) := by
  unfold refAdd enc
  simp only []
  rw [iAdd_u, iAdd_u, iAdd_u, iRem_n (by omega), iRem_n (by omega)]
  cases h : iLt ((a % 18446744073709551616 + b % 18446744073709551616) % 18446744073709551616) (a % 18446744073709551616) with
  | true =>
    rw [iLt_t] at h
    simp only [cond_true]
    rw [show ((a / 18446744073709551616 % 2 + b / 18446744073709551616 % 2) % 18446744073709551616 + 1) % 18446744073709551616 % 2 = (a + b) / 18446744073709551616 % 2 by omega,
      show (a % 18446744073709551616 + b % 18446744073709551616) % 18446744073709551616 = (a + b) % 18446744073709551616 by omega]
  | false =>
    rw [iLt_f] at h
    simp only [cond_false]
    rw [show (a / 18446744073709551616 % 2 + b / 18446744073709551616 % 2) % 18446744073709551616 % 2 = (a + b) / 18446744073709551616 % 2 by omega,
      show (a % 18446744073709551616 + b % 18446744073709551616) % 18446744073709551616 = (a + b) % 18446744073709551616 by omega]

theorem upL_enc (n : Nat) : ∀ (d k i : Nat) (h l : Int), i + d = n → d < k → (h = 0 ∨ h = 1) → inU l → upL k i n h l = enc ((h * 18446744073709551616 + l) * 2 ^ d)
  | d, 0, _, _, _, _, h, _, _ => absurd h (Nat.not_lt_zero _)
  | 0, k + 1, i, h, l, hi, _, hh, hl => by
    unfold upL
    rw [show iLt (Int.ofNat i) (n : Int) = false from iLt_f.2 (by simp only [Int.ofNat_eq_natCast]; omega)]
    simp only [cond_false, Int.pow_zero, Int.mul_one]
    exact enc_parts hh hl
  | d + 1, k + 1, i, h, l, hi, hd, hh, hl => by
    unfold upL
    rw [show iLt (Int.ofNat i) (n : Int) = true from iLt_t.2 (by simp only [Int.ofNat_eq_natCast]; omega)]
    simp only [cond_true]
    rw [show (63 : Int) = ((63 : Nat) : Int) from rfl, iShr_n _ _ 63 (by decide), show (1 : Int) = ((1 : Nat) : Int) from rfl, iShl_u _ 1 (by decide)]
    unfold inU at hl
    rw [upL_enc n d k (i + 1) _ _ (by omega) (by omega) (by omega) (by unfold inU; omega)]
    refine enc_congr ?_
    rw [show (2 : Int) ^ (d + 1) = 2 * 2 ^ d by rw [Int.pow_succ, Int.mul_comm], ← Int.mul_assoc]
    generalize (2 : Int) ^ d = q
    rw [Int.mul_emod, show (l / 2 ^ 63 * 18446744073709551616 + l * 2 ^ 1 % 18446744073709551616) % 36893488147419103232 = (h * 18446744073709551616 + l) * 2 % 36893488147419103232 by omega, ← Int.mul_emod]

theorem refUp_enc (l : Int) (b : Bool) (n : Nat) (hl : inU l) (hn : n ≤ 66) : refUp l b n = enc (((bif b then 1 else 0) * 18446744073709551616 + l) * 2 ^ n) := by
  unfold refUp
  cases b with
  | true => simp only [cond_true]; exact upL_enc n n 67 0 1 l (by omega) (by omega) (.inr rfl) hl
  | false => simp only [cond_false]; exact upL_enc n n 67 0 0 l (by omega) (by omega) (.inl rfl) hl

theorem refPart_enc {a s : Int} (ha : 0 ≤ a) (ha' : a < 4611686018427387904) (hs : s = -1 ∨ s = 0 ∨ s = 1) :
    inU (refPart a s).1 ∧ ((bif (refPart a s).2.1 then (1 : Int) else 0) * 18446744073709551616 + (refPart a s).1) % 36893488147419103232 = (a + s) % 36893488147419103232 := by
  unfold refPart
  rcases hs with rfl | rfl | rfl
  · rw [show iLt (-1) 0 = true from iLt_t.2 (by decide)]
    simp only [cond_true]
    refine ⟨inU_sub _ _, ?_⟩
    rw [iSub_u]
    by_cases h : a = 0
    · subst h; rw [show iEq 0 0 = true from iEq_t.2 rfl]; decide
    · rw [show iEq a 0 = false from iEq_f.2 h]; simp only [cond_false]; omega
  · rw [show iLt 0 0 = false from iLt_f.2 (by decide)]
    simp only [cond_false]
    refine ⟨inU_add _ _, ?_⟩
    rw [iAdd_u, iCv_u]; omega
  · rw [show iLt 1 0 = false from iLt_f.2 (by decide)]
    simp only [cond_false]
    refine ⟨inU_add _ _, ?_⟩
    rw [iAdd_u, iCv_u]; omega

theorem truth_cases (b : Bool) : truth b = 0 ∨ truth b = 1 := by cases b <;> simp [truth]

/-- What is known of a right capability's bounds. -/
structure bOk (c : Cap) : Prop where
  e0 : 0 ≤ c.e
  e1 : c.e ≤ 52
  b0 : 0 ≤ c.b
  b1 : c.b ≤ 16383
  t0 : 0 ≤ c.t
  t1 : c.t ≤ 4095
  a : inU c.addr

section
variable {c : Cap} (h : bOk c)
include h

theorem corner_eq : bCorner c = rCorner c := by
  obtain ⟨_, _, h1, h2, _, _, _⟩ := h
  unfold bCorner rCorner
  rw [show (11 : Int) = ((11 : Nat) : Int) from rfl, iShr_n _ _ 11 (by decide), iQuo_i h1 (by decide) (by omega), iSub_i (by omega) (by omega), iAnd_i_low _ 3 (by decide) (by decide),
    iShl_i _ 11 (by decide) (by omega) (by omega), iAdd_i (by omega) (by omega), iRem_n (by omega), iMul_i (by omega) (by omega)]
  omega

theorem middle_eq : bMiddle c = rMiddle c := by
  obtain ⟨h1, h2, _, _, _, _, ha⟩ := h
  unfold bMiddle rMiddle
  obtain ⟨n, hn⟩ := Int.eq_ofNat_of_zero_le h1
  have hn' : n ≤ 52 := by omega
  rw [iCv_u c.e, show c.e % 18446744073709551616 = c.e by omega, hn]
  have hi := inU_shr ha .u64 (n : Int)
  unfold inU at hi
  generalize iShr .u64 c.addr (n : Int) = z at *
  rw [iRem_n hi.1, iAnd_i_low _ 14 (by decide) (by decide)]
  unfold iCv
  rw [i64_wrap (n := z % 16384) (by omega) (by omega)]
  simp only [IntKind.wrap, IntKind.signed, IntKind.bits]
  simp
  omega

theorem top_eq : bT c = rT c := by
  obtain ⟨_, _, h1, h2, h3, h4, _⟩ := h
  unfold bT rT
  have ht1 := truth_cases c.big
  have ht2 : ∀ b, truth b = 0 ∨ truth b = 1 := truth_cases
  rw [show iAnd .i64 c.b 4095 = c.b % 4096 by rw [iAnd_i_low _ 12 (by decide) (by decide)]; omega]
  rw [show iRem c.b 4096 = c.b % 4096 from iRem_n h1 _]
  have ht := ht2 (iLt c.t (c.b % 4096))
  generalize truth (iLt c.t (c.b % 4096)) = u at *
  generalize truth c.big = v at *
  rw [show (12 : Int) = ((12 : Nat) : Int) from rfl, iShr_n _ _ 12 (by decide), iQuo_i h1 (by decide) (by omega), iAdd_i (a := c.b / 2 ^ 12) (by omega) (by omega), iAdd_i (a := c.b / 2 ^ 12 + u) (by omega) (by omega), iAnd_i_low _ 2 (by decide) (by decide),
    iShl_i _ 12 (by decide) (by omega) (by omega), iAdd_i (a := c.b / 4096) (by omega) (by omega), iAdd_i (a := c.b / 4096 + u) (by omega) (by omega), iRem_n (by omega), iMul_i (by omega) (by omega), iAdd_i (by omega) (by omega),
    iOr_i_add _ 12 _ h3 (by omega) (by omega) (by omega)]
  omega

theorem end_eq (n : Nat) (hn : n ≤ 52) (hc : c.e = n) {u m : Int} (hu : 0 ≤ u) (hu' : u < 4611686018427387904) (hm : 0 ≤ m) (hm' : m < 9223372036854775808) : bEnd c u m = rEnd c u m := by
  unfold bEnd rEnd
  have hst : bStep c m = rStep c m := by unfold bStep rStep; rw [corner_eq h, middle_eq h]
  have hs : rStep c m = -1 ∨ rStep c m = 0 ∨ rStep c m = 1 := by
    unfold rStep
    rcases truth_cases (iLt m (rCorner c)) with e | e <;> rcases truth_cases (iLt (rMiddle c) (rCorner c)) with e' | e' <;> rw [e, e', iSub_i (by decide) (by decide)] <;> decide
  rw [hst]
  generalize rStep c m = s at *
  have he : iAdd .i64 c.e 14 = ((n + 14 : Nat) : Int) := by rw [hc, iAdd_i (by omega) (by omega)]; omega
  rw [he, hc]
  have hus : iAdd .i64 u s = u + s := iAdd_i (by omega) (by omega)
  rw [hus, signed_enc (by unfold inI; omega), small_enc (by unfold inU; omega), upW_enc, upW_enc, plus_enc]
  obtain ⟨p1, p2⟩ := refPart_enc hu hu' hs
  rw [refUp_enc _ _ _ p1 (by omega), refUp_enc _ _ _ (inU_cv _) (by omega), refAdd_enc]
  rw [iCv_u, show m % 18446744073709551616 = m by omega]
  simp only [cond_false, Int.zero_mul, Int.zero_add]
  refine enc_congr ?_
  generalize (bif (refPart u s).2.1 then (1 : Int) else 0) * 18446744073709551616 + (refPart u s).1 = w at *
  rw [Int.add_emod, Int.mul_emod, ← p2, ← Int.mul_emod, ← Int.add_emod]

omit h in
theorem fin_eq (x y : Int) : bFin c (enc x) (enc y) = rFin c (enc x) (enc y) := by
  unfold bFin rFin enc
  simp only []
  have h1 : iAnd .u64 (iSub .u64 (iAdd .u64 (iShl .u64 (y / 18446744073709551616 % 2) 1) (iShr .u64 (y % 18446744073709551616) 63)) (iShr .u64 (x % 18446744073709551616) 63)) 3 =
      iRem (iSub .u64 (iAdd .u64 (iAdd .u64 (iMul .u64 2 (y / 18446744073709551616 % 2)) (iShr .u64 (y % 18446744073709551616) 63)) 4) (iShr .u64 (x % 18446744073709551616) 63)) 4 := by
    rw [show (63 : Int) = ((63 : Nat) : Int) from rfl, iShr_n _ _ 63 (by decide), iShr_n _ _ 63 (by decide), show iShl .u64 (y / 18446744073709551616 % 2) 1 = _ from iShl_u _ 1 (by decide), iAdd_u, iAdd_u, iAdd_u, iMul_u, iSub_u, iSub_u, iRem_n (by omega), iAnd_u_low _ 2 (by decide) (by decide)]
    omega
  rw [h1, iXor_bit (by omega), show iSub .u64 1 (y / 18446744073709551616 % 2) = 1 - y / 18446744073709551616 % 2 by rw [iSub_u]; omega]

theorem bOf_rOf : bOf c = rOf c := by
  have hb := h
  obtain ⟨h1, h2, h3, h4, h5, h6, ha⟩ := h
  obtain ⟨n, hn⟩ := Int.eq_ofNat_of_zero_le h1
  have hn' : n ≤ 52 := by omega
  have he : iAdd .i64 c.e 14 = ((n + 14 : Nat) : Int) := by rw [hn, iAdd_i (by omega) (by omega)]; omega
  have hT : 0 ≤ rT c ∧ rT c < 9223372036854775808 := by
    unfold rT
    have g1 := truth_cases c.big
    have g2 := truth_cases (iLt c.t (iRem c.b 4096))
    generalize truth c.big = v at *
    generalize truth (iLt c.t (iRem c.b 4096)) = u at *
    rw [iQuo_i h3 (by decide) (by omega), iAdd_i (a := c.b / 4096) (by omega) (by omega), iAdd_i (a := c.b / 4096 + u) (by omega) (by omega), iRem_n (by omega), iMul_i (by omega) (by omega), iAdd_i (by omega) (by omega)]
    omega
  have key : ∀ u m : Int, 0 ≤ u → u < 4611686018427387904 → 0 ≤ m → m < 9223372036854775808 → bEnd c u m = rEnd c u m := fun u m a1 a2 a3 a4 => end_eq hb n hn' hn a1 a2 a3 a4
  have isenc : ∀ u m : Int, 0 ≤ u → u < 4611686018427387904 → 0 ≤ m → m < 9223372036854775808 → ∃ z, rEnd c u m = enc z := by
    intro u m a1 a2 a3 a4
    unfold rEnd
    have hs : rStep c m = -1 ∨ rStep c m = 0 ∨ rStep c m = 1 := by
      unfold rStep
      rcases truth_cases (iLt m (rCorner c)) with e | e <;> rcases truth_cases (iLt (rMiddle c) (rCorner c)) with e' | e' <;> rw [e, e', iSub_i (by decide) (by decide)] <;> decide
    rw [he, hn, refUp_enc _ _ _ (refPart_enc a1 a2 hs).1 (by omega), refUp_enc _ _ _ (inU_cv _) (by omega), refAdd_enc]
    exact ⟨_, rfl⟩
  have all : ∀ u : Int, 0 ≤ u → u < 4611686018427387904 → bFin c (bEnd c u c.b) (bEnd c u (bT c)) = rFin c (rEnd c u c.b) (rEnd c u (rT c)) := by
    intro u a1 a2
    rw [top_eq hb, key u c.b a1 a2 h3 (by omega), key u (rT c) a1 a2 hT.1 hT.2]
    obtain ⟨x, hx⟩ := isenc u c.b a1 a2 h3 (by omega)
    obtain ⟨y, hy⟩ := isenc u (rT c) a1 a2 hT.1 hT.2
    rw [hx, hy]
    exact fin_eq x y
  unfold bOf rOf
  cases hl : iLt (iAdd .i64 c.e 14) 64 with
  | false => simp only [cond_false]; exact all 0 (by decide) (by decide)
  | true =>
    simp only [cond_true]
    rw [iLt_t, he] at hl
    have hup : bUpper c = c.addr / 2 ^ (n + 14) ∧ rUpper c = c.addr / 2 ^ (n + 14) := by
      unfold bUpper rUpper
      rw [he, iShr_n _ _ _ (show n + 14 ≤ 64 by omega), iCv_u, show ((n + 14 : Nat) : Int) % 18446744073709551616 = ((n + 14 : Nat) : Int) by omega, iShr_n _ _ _ (show n + 14 ≤ 64 by omega)]
      unfold inU at ha
      have hq : (16384 : Int) ≤ 2 ^ (n + 14) := by
        rw [Int.pow_add]
        have : (0 : Int) < 2 ^ n := Int.pow_pos (by decide)
        omega
      have hz : 0 ≤ c.addr / 2 ^ (n + 14) ∧ c.addr / 2 ^ (n + 14) < 4611686018427387904 := by
        refine ⟨Int.ediv_nonneg ha.1 (by omega), Int.ediv_lt_of_lt_mul (by omega) ?_⟩
        have : 4611686018427387904 * (16384 : Int) ≤ 4611686018427387904 * 2 ^ (n + 14) := Int.mul_le_mul_of_nonneg_left hq (by decide)
        omega
      exact ⟨iCv_i (by omega) (by omega), rfl⟩
    have hz : 0 ≤ c.addr / 2 ^ (n + 14) ∧ c.addr / 2 ^ (n + 14) < 4611686018427387904 := by
      unfold inU at ha
      have hq : (16384 : Int) ≤ 2 ^ (n + 14) := by
        rw [Int.pow_add]
        have : (0 : Int) < 2 ^ n := Int.pow_pos (by decide)
        omega
      refine ⟨Int.ediv_nonneg ha.1 (by omega), Int.ediv_lt_of_lt_mul (by omega) ?_⟩
      have : 4611686018427387904 * (16384 : Int) ≤ 4611686018427387904 * 2 ^ (n + 14) := Int.mul_le_mul_of_nonneg_left hq (by decide)
      omega
    rw [hup.1, hup.2]
    exact all _ hz.1 hz.2

end

theorem within_t {n h : Int} : within n h = true ↔ 0 ≤ n ∧ n ≤ h := by
  unfold within
  cases e : iLe 0 n with
  | true => rw [cond_true, iLe_t]; rw [iLe_t] at e; omega
  | false => rw [cond_false]; rw [iLe_f] at e; exact ⟨fun h' => (by cases h'), fun h' => (by omega)⟩

/-- A right capability's numbers are in their places. -/
theorem right_facts {c : Cap} (h : right c = true) : 0 ≤ c.e ∧ c.e ≤ 52 ∧ 0 ≤ c.b ∧ c.b ≤ 16383 ∧ 0 ≤ c.t ∧ c.t ≤ 4095 ∧ 0 ≤ c.perms ∧ c.perms ≤ 65535 ∧ 0 ≤ c.type ∧ c.type ≤ 262143 := by
  unfold right at h
  simp only [bNot_eq] at h
  cases h1 : within c.perms 65535 <;> rw [h1] at h <;> first | cases h | skip
  cases h2 : within c.type 262143 <;> rw [h2] at h <;> first | cases h | skip
  cases h3 : within c.mode 1 <;> rw [h3] at h <;> first | cases h | skip
  cases h4 : within c.b 16383 <;> rw [h4] at h <;> first | cases h | skip
  cases h5 : within c.t 4095 <;> rw [h5] at h <;> first | cases h | skip
  rw [within_t] at h1 h2 h4 h5
  cases hb : c.big <;> rw [hb] at h
  · have h : iEq c.e 0 = true := h
    rw [iEq_t] at h; omega
  · cases h6 : within c.e 52 <;> rw [h6] at h <;> first | cases h | skip
    rw [within_t] at h6; omega

theorem right_bOk {c : Cap} (h : right c = true) (ha : inU c.addr) : bOk c := by
  have := right_facts h
  exact ⟨by omega, by omega, by omega, by omega, by omega, by omega, ha⟩
theorem right_eOk {c : Cap} (h : right c = true) : eOk c := by have := right_facts h; unfold eOk; omega

/-- Moving a right capability is the same by the program and by the document's answer. -/
theorem bMove_rMove {c : Cap} (h : bOk c) {a : Int} (ha : inU a) : bMove c a = rMove c a := by
  have h1 : bFits c a = rFits c a := by
    unfold bFits rFits
    rw [bOf_rOf (c := { c with addr := a }) ⟨h.e0, h.e1, h.b0, h.b1, h.t0, h.t1, ha⟩, bOf_rOf h]
    unfold rngEq
    exact decide_eq_decide.2 ⟨Eq.symm, Eq.symm⟩
  unfold bMove rMove keep
  rw [h1]
  cases hc : c.tag <;> cases hs : bNot (sealed c) <;> rfl

end Go.Mir

namespace Go.Mir


theorem rightXs_t : ∀ (k i : Nat) (h : Hart) (r : Bool), rightXs k i h r = true → (∀ j, i ≤ j → j < i + k → right (h.x j) = true) ∧ r = true
  | 0, i, h, r, e => ⟨fun j h1 h2 => by omega, e⟩
  | k + 1, i, h, r, e => by
    simp only [rightXs, bNot_eq] at e
    cases hr : right (h.x i) with
    | false => rw [hr] at e; cases e
    | true =>
      rw [hr] at e
      obtain ⟨h1, h2⟩ := rightXs_t k (i + 1) h r e
      refine ⟨fun j g1 g2 => ?_, h2⟩
      by_cases e : j = i
      · subst e; exact hr
      · exact h1 j (by omega) (by omega)
theorem rightXs_of : ∀ (k i : Nat) (h : Hart) (r : Bool), (∀ j, i ≤ j → j < i + k → right (h.x j) = true) → rightXs k i h r = r
  | 0, i, h, r, e => rfl
  | k + 1, i, h, r, e => by
    simp only [rightXs, bNot_eq]
    rw [e i (Nat.le_refl _) (by omega)]
    exact rightXs_of k (i + 1) h r fun j g1 g2 => e j (by omega) (by omega)
theorem rightCs_t : ∀ (l : List Cap) (r : Bool), rightCs l r = true → (∀ c ∈ l, right c = true) ∧ r = true
  | [], r, e => ⟨fun c h => (by cases h), e⟩
  | c :: l, r, e => by
    simp only [rightCs, bNot_eq] at e
    cases hr : right c with
    | false => rw [hr] at e; cases e
    | true =>
      rw [hr] at e
      obtain ⟨h1, h2⟩ := rightCs_t l r e
      exact ⟨fun d hd => (List.mem_cons.1 hd).elim (fun e => e ▸ hr) (h1 d), h2⟩
theorem rightCs_of : ∀ (l : List Cap) (r : Bool), (∀ c ∈ l, right c = true) → rightCs l r = r
  | [], r, e => rfl
  | c :: l, r, e => by
    simp only [rightCs, bNot_eq]
    rw [e c (by simp)]
    exact rightCs_of l r fun d hd => e d (by simp [hd])

def capsOf (h : Hart) : List Cap := [h.pcc, h.ddc, h.stcc, h.stdc, h.sscr, h.sepcc, h.mtcc, h.mtdc, h.mscr, h.mepcc]

/-- What is known of a right hart. -/
structure HRt (h : Hart) : Prop where
  x : ∀ j, j < 32 → right (h.x j) = true
  x0 : h.x 0 = number 0
  caps : ∀ c ∈ capsOf h, right c = true
  priv : h.priv = 0 ∨ h.priv = 1 ∨ h.priv = 3

theorem privB (p : Int) : (bif iEq p 0 then true else bif iEq p 1 then true else iEq p 3) = true ↔ p = 0 ∨ p = 1 ∨ p = 3 := by
  by_cases h0 : p = 0
  · subst h0; rw [show iEq 0 0 = true from iEq_t.2 rfl]; simp
  · rw [show iEq p 0 = false from iEq_f.2 h0]
    by_cases h1 : p = 1
    · subst h1; rw [show iEq 1 1 = true from iEq_t.2 rfl]; simp
    · rw [show iEq p 1 = false from iEq_f.2 h1]
      simp only [cond_false, iEq_t]
      omega

theorem hartRight_iff (h : Hart) : hartRight h = true ↔ HRt h := by
  constructor
  · intro e
    unfold hartRight at e
    simp only [bNot_eq] at e
    cases h0 : right (h.x 0) <;> rw [h0] at e <;> first | cases e | skip
    cases h1 : capEq (h.x 0) (number 0) <;> rw [h1] at e <;> first | cases e | skip
    have e : rightXs 31 1 h _ = true := e
    obtain ⟨e1, e2⟩ := rightXs_t _ _ _ _ e
    obtain ⟨e3, e4⟩ := rightCs_t _ _ e2
    refine ⟨fun j hj => ?_, ?_, e3, (privB _).1 e4⟩
    · by_cases e : j = 0
      · subst e; exact h0
      · exact e1 j (by omega) (by omega)
    · unfold capEq at h1; exact of_decide_eq_true h1
  · intro ⟨e1, e2, e3, e4⟩
    unfold hartRight
    rw [bNot_eq, bNot_eq, e1 0 (by decide), show capEq (h.x 0) (number 0) = true by unfold capEq; exact decide_eq_true e2]
    show rightXs 31 1 h _ = true
    rw [rightXs_of 31 1 h _ fun j h1 h2 => e1 j (by omega)]
    exact (rightCs_of (capsOf h) _ e3).trans ((privB _).2 e4)

theorem HRt.four {h : Hart} (r : HRt h) : fourOk h :=
  ⟨right_eOk (r.caps _ (by simp [capsOf])), right_eOk (r.caps _ (by simp [capsOf])), right_eOk (r.caps _ (by simp [capsOf])), right_eOk (r.caps _ (by simp [capsOf]))⟩

/-! ### Is there a register? -/
theorem last_there {α : Type} (n : Int) (x y : α) :
    last n x y = bif (bif iLe 0x3A0 n then bif iLe n 0x3EF then true else bif iLe 0xF11 n then iLe n 0xF14 else false else bif iLe 0xF11 n then iLe n 0xF14 else false) then x else y := by
  unfold last tl
  rw [bNot_eq]
  cases iLe 928 n <;> cases iLe n 1007 <;> cases iLe 3857 n <;> cases iLe n 3860 <;> rfl

theorem tab_there {α : Type} (n : Int) (x y : α) : tab n x y = bif there n then x else y := by
  unfold tab two
  rw [last_there]
  unfold there isIn isIn isIn isIn isIn isIn isIn isIn isIn isIn isIn isIn isIn isIn isIn isIn isIn isIn isIn isIn isIn isIn isIn isIn isIn isIn isIn isIn
  generalize (bif iLe 0x3A0 n then bif iLe n 0x3EF then true else bif iLe 0xF11 n then iLe n 0xF14 else false else bif iLe 0xF11 n then iLe n 0xF14 else false) = b
  rw [iEq_comm 256 n]
  rw [iEq_comm 260 n]
  rw [iEq_comm 261 n]
  rw [iEq_comm 262 n]
  rw [iEq_comm 320 n]
  rw [iEq_comm 321 n]
  rw [iEq_comm 322 n]
  rw [iEq_comm 323 n]
  rw [iEq_comm 324 n]
  rw [iEq_comm 384 n]
  rw [iEq_comm 768 n]
  rw [iEq_comm 769 n]
  rw [iEq_comm 770 n]
  rw [iEq_comm 771 n]
  rw [iEq_comm 772 n]
  rw [iEq_comm 773 n]
  rw [iEq_comm 774 n]
  rw [iEq_comm 832 n]
  rw [iEq_comm 833 n]
  rw [iEq_comm 834 n]
  rw [iEq_comm 835 n]
  rw [iEq_comm 836 n]
  rw [iEq_comm 2816 n]
  rw [iEq_comm 2818 n]
  rw [iEq_comm 3072 n]
  rw [iEq_comm 3073 n]
  rw [iEq_comm 3074 n]
  cases iEq n 256
  rotate_left
  · rfl
  cases iEq n 260
  rotate_left
  · rfl
  cases iEq n 261
  rotate_left
  · rfl
  cases iEq n 262
  rotate_left
  · rfl
  cases iEq n 320
  rotate_left
  · rfl
  cases iEq n 321
  rotate_left
  · rfl
  cases iEq n 322
  rotate_left
  · rfl
  cases iEq n 323
  rotate_left
  · rfl
  cases iEq n 324
  rotate_left
  · rfl
  cases iEq n 384
  rotate_left
  · rfl
  cases iEq n 768
  rotate_left
  · rfl
  cases iEq n 769
  rotate_left
  · rfl
  cases iEq n 770
  rotate_left
  · rfl
  cases iEq n 771
  rotate_left
  · rfl
  cases iEq n 772
  rotate_left
  · rfl
  cases iEq n 773
  rotate_left
  · rfl
  cases iEq n 774
  rotate_left
  · rfl
  cases iEq n 832
  rotate_left
  · rfl
  cases iEq n 833
  rotate_left
  · rfl
  cases iEq n 834
  rotate_left
  · rfl
  cases iEq n 835
  rotate_left
  · rfl
  cases iEq n 836
  rotate_left
  · rfl
  cases iEq n 2816 <;> cases iEq n 2818 <;> cases iEq n 3072 <;> cases iEq n 3073 <;> cases iEq n 3074 <;> cases b <;> rfl

theorem isIn_bounds : ∀ (l : List Int) (n : Int) (r : Bool), isIn l n r = true → n ∈ l ∨ r = true
  | [], n, r, h => .inr h
  | a :: l, n, r, h => by
    unfold isIn at h
    cases e : iEq a n with
    | true => rw [iEq_t] at e; exact .inl (by simp [e])
    | false =>
      rw [e] at h
      rcases isIn_bounds l n r h with h | h
      · exact .inl (by simp [h])
      · exact .inr h

theorem there_bounds {n : Int} (h : there n = true) : 256 ≤ n ∧ n ≤ 3860 := by
  unfold there at h
  rcases isIn_bounds _ _ _ h with h | h
  · simp only [List.mem_cons, List.not_mem_nil, or_false] at h
    omega
  · cases h1 : iLe 928 n <;> cases h2 : iLe n 1007 <;> cases h3 : iLe 3857 n <;> rw [h1] at h <;> first | rw [h2] at h | skip
    all_goals first | rw [h3] at h | skip
    all_goals first | (rw [iLe_t] at h1 h2; omega) | (cases h; done) | (have h : iLe n 3860 = true := h; rw [iLe_t] at h h3; omega)

theorem lvl_eq {n : Int} (h : 0 ≤ n) (h' : n < 9223372036854775808) : lvl n = n / 256 % 4 ∧ rLvl n = n / 256 % 4 := by
  unfold lvl rLvl
  rw [show (8 : Int) = ((8 : Nat) : Int) from rfl, iShr_n _ _ 8 (by decide), iAnd_i_low _ 2 (by decide) (by decide), iQuo_i h (by decide) h', iRem_n (by omega)]
  exact ⟨rfl, rfl⟩

theorem readOnly_eq {n : Int} (h : 0 ≤ n) (h' : n < 4096) : readOnly n = iEq (iQuo .i64 n 1024) 3 := by
  unfold readOnly
  rw [show (10 : Int) = ((10 : Nat) : Int) from rfl, iShr_n _ _ 10 (by decide), iAnd_i_low _ 2 (by decide) (by decide), iQuo_i h (by decide) (by omega)]
  rw [show n / 2 ^ 10 % 2 ^ 2 = n / 1024 by omega]

theorem bit_eq {a : Int} (h : inU a) (k : Nat) (hk : k < 64) : bNot (iEq (iAnd .u64 a ((2 ^ k : Nat) : Int)) 0) = rBit a (k : Int) := by
  unfold rBit
  rw [bit_u h k hk, iCv_u, show (k : Int) % 18446744073709551616 = (k : Int) by omega, iShr_n _ _ k (by have : IntKind.u64.bits = 64 := rfl; omega), iRem_n (Int.ediv_nonneg h.1 (Int.le_of_lt (Int.pow_pos (by decide))))]
  have hp : (0 : Int) < 2 ^ k := Int.pow_pos (by decide)
  have hm : a / 2 ^ k % 2 = 0 ∨ a / 2 ^ k % 2 = 1 := by omega
  rcases hm with e | e
  · rw [e, Int.zero_mul]; rw [show iEq 0 0 = true from iEq_t.2 rfl, show iEq 0 1 = false from iEq_f.2 (by decide), bNot_eq]; rfl
  · rw [e, Int.one_mul]; rw [show iEq (2 ^ k) 0 = false from iEq_f.2 (by omega), show iEq 1 1 = true from iEq_t.2 rfl, bNot_eq]; rfl

/-! ### Who may -/
theorem may_eq {h : Hart} (ty : HTy h) (rt : HRt h) (n : Int) (w : Bool) : bMay h n w = rMay h n w := by
  unfold bMay rMay
  rw [tab_there, bNot_eq]
  cases ht : there n with
  | false => rfl
  | true =>
    have hb := there_bounds ht
    obtain ⟨l1, l2⟩ := lvl_eq (n := n) (by omega) (by omega)
    have hr := readOnly_eq (n := n) (by omega) (by omega)
    simp only [cond_true, Bool.not_true, cond_false]
    have hp : 0 ≤ h.pcc.perms ∧ h.pcc.perms ≤ 65535 := by
      have := right_facts (rt.caps h.pcc (by simp [capsOf]))
      omega
    have hend : mayEnd h n = rMayEnd h n := by
      unfold mayEnd rMayEnd
      rw [l1, l2]
      have e1 : iLt 0 (n / 256 % 4) = bNot (iEq (n / 256 % 4) 0) := by
        rw [bNot_eq]
        cases hx : iEq (n / 256 % 4) 0 with
        | true => rw [iEq_t] at hx; exact iLt_f.2 (by omega)
        | false => rw [iEq_f] at hx; exact iLt_t.2 (by omega)
      have e2 : iEq (iAnd .i64 h.pcc.perms 512) 0 = iEq (iRem (iQuo .i64 h.pcc.perms 512) 2) 0 := by
        have hq : iAnd .i64 h.pcc.perms 512 = h.pcc.perms / 512 % 2 * 512 := by
          have := bit_u (a := h.pcc.perms) (by unfold inU; omega) 9 (by decide)
          have hi : iAnd .i64 h.pcc.perms 512 = iAnd .u64 h.pcc.perms 512 := by
            rw [iAnd_u]
            unfold iAnd
            show IntKind.i64.wrap (((BitVec.ofInt 64 h.pcc.perms &&& BitVec.ofInt 64 512).toNat : Nat) : Int) = _
            rw [BitVec.toNat_and, ofInt_toNat_u, ofInt_toNat_u]
            have h1 : (h.pcc.perms % 18446744073709551616).toNat &&& ((512 : Int) % 18446744073709551616).toNat ≤ ((512 : Int) % 18446744073709551616).toNat := Nat.and_le_right
            generalize (h.pcc.perms % 18446744073709551616).toNat &&& ((512 : Int) % 18446744073709551616).toNat = z at *
            rw [i64_wrap (by omega) (by omega)]
          rw [hi]
          exact this
        rw [hq, iQuo_i hp.1 (by decide) (by omega), iRem_n (by omega)]
        have hm : h.pcc.perms / 512 % 2 = 0 ∨ h.pcc.perms / 512 % 2 = 1 := by omega
        rcases hm with e | e <;> rw [e] <;> first | rfl | (rw [show iEq (1 * 512) 0 = false from iEq_f.2 (by decide), show iEq 1 0 = false from iEq_f.2 (by decide)])
      rw [e1, e2]
    have hcnt : mayCnt h n = rMayCnt h n := by
      unfold mayCnt rMayCnt
      rw [hend]
      cases h1 : iLe 3072 n with
      | false => rfl
      | true =>
        cases h2 : iLe n 3074 with
        | false => rfl
        | true =>
          rw [iLe_t] at h1 h2
          obtain ⟨k, hk, hk'⟩ : ∃ k : Nat, n - 3072 = (k : Int) ∧ k < 3 := ⟨(n - 3072).toNat, by omega, by omega⟩
          have e1 : iSub .i64 n 3072 = (k : Int) := by rw [iSub_i (by omega) (by omega), hk]
          have e2 : cBit n = ((2 ^ k : Nat) : Int) := by
            unfold cBit
            rw [iAnd_i_low _ 2 (by decide) (by decide), show n % 2 ^ 2 = (k : Int) by omega, iShl_u _ _ (by omega), Int.one_mul]
            have hk3 : k = 0 ∨ k = 1 ∨ k = 2 := by omega
            rcases hk3 with rfl | rfl | rfl <;> decide
          unfold counted rMayS
          rw [e1, e2, ← bit_eq ty.mcounteren k (by omega), ← bit_eq ty.scounteren k (by omega)]
          simp only [bNot_eq, Bool.not_not]
          cases iLt h.priv 3 <;> cases iEq (iAnd .u64 h.mcounteren ((2 ^ k : Nat) : Int)) 0 <;> cases iEq h.priv 0 <;> cases iEq (iAnd .u64 h.scounteren ((2 ^ k : Nat) : Int)) 0 <;> rfl
    have hrest : mayRest h n = rMayRest h n := by
      unfold mayRest rMayRest
      rw [hcnt, show (1048576 : Int) = ((2 ^ 20 : Nat) : Int) from rfl, bit_eq ty.mstatus 20 (by decide)]
      rfl
    unfold mayT
    rw [hr, l1, l2, hrest]
    cases iLt h.priv (n / 256 % 4) <;> cases w <;> rfl

/-! ### Reading -/
theorem and_bn (x : BitVec 64) (b : Int) : iAnd .u64 (bn x) b = bn (x &&& bv b) := by rw [and_bv, bv_bn]
theorem or_disj (a m c : Int) (h : bv m &&& bv c = 0#64) : iOr .u64 (iAnd .u64 a m) c = iAdd .u64 (iAnd .u64 a m) c := by
  rw [or_bv, add_bv, and_bv, bv_bn, or_add]
  rw [BitVec.and_assoc, h, BitVec.and_zero]

theorem low_rem {a : Int} (h : inU a) : iAnd .u64 a 7 = iRem a 8 := by
  rw [iAnd_u_low _ 3 (by decide) (by decide), iRem_n h.1]; rfl
theorem and_assoc3 (a b c : Int) : iAnd .u64 a (iAnd .u64 b c) = iAnd .u64 (iAnd .u64 a b) c := by
  rw [and_bv, and_bv, and_bv, and_bv, bv_bn, bv_bn, BitVec.and_assoc]
theorem two_disj (a : Int) : iOr .u64 (iOr .u64 (iAnd .u64 a 8264106) 8589934592) 34359738368 = iAdd .u64 (iAdd .u64 (iAnd .u64 a 8264106) 8589934592) 34359738368 := by
  rw [or_disj _ _ _ (by decide)]
  rw [or_bv, add_bv (iAdd .u64 (iAnd .u64 a 8264106) 8589934592) 34359738368, add_bv, bv_bn, and_bv, bv_bn]
  have h1 : bv a &&& bv 8264106 &&& bv 8589934592 = 0#64 := by rw [BitVec.and_assoc, show bv 8264106 &&& bv 8589934592 = 0#64 by decide, BitVec.and_zero]
  rw [← or_add h1]
  have h2 : (bv a &&& bv 8264106 ||| bv 8589934592) &&& bv 34359738368 = 0#64 := by
    rw [BitVec.and_comm, BitVec.and_or_distrib_left, BitVec.and_comm (bv 34359738368), BitVec.and_assoc, show bv 8264106 &&& bv 34359738368 = 0#64 by decide, show bv 34359738368 &&& bv 8589934592 = 0#64 by decide, BitVec.and_zero]
    rfl
  rw [or_add h2]

theorem read_eq {h : Hart} (ty : HTy h) (n t l : Int) : bRead h n t l = rRead h n t l := by
  have ht : tab n true false = there n := by rw [tab_there]; cases there n <;> rfl
  unfold bRead rRead
  unfold tab at ht
  cases h256 : iEq n 256
  rotate_left
  · simp only [h256, cond_true]
    exact congrArg (fun z => (z, true, ())) (or_disj _ _ _ (by decide))
  simp only [h256, cond_false] at ht ⊢
  cases h260 : iEq n 260
  rotate_left
  · simp only [h260, cond_true]
    exact congrArg (fun z => (z, true, ())) (and_assoc3 _ _ _)
  simp only [h260, cond_false] at ht ⊢
  cases h261 : iEq n 261
  rotate_left
  · simp only [h261, cond_true]
    try rfl
  simp only [h261, cond_false] at ht ⊢
  cases h262 : iEq n 262
  rotate_left
  · simp only [h262, cond_true]
    exact congrArg (fun z => (z, true, ())) (low_rem ty.scounteren)
  simp only [h262, cond_false] at ht ⊢
  cases h320 : iEq n 320
  rotate_left
  · simp only [h320, cond_true]
    exact congrArg (fun z => (z, true, ())) (and_all ty.sscratch)
  simp only [h320, cond_false] at ht ⊢
  cases h321 : iEq n 321
  rotate_left
  · simp only [h321, cond_true]
    try rfl
  simp only [h321, cond_false] at ht ⊢
  cases h322 : iEq n 322
  rotate_left
  · simp only [h322, cond_true]
    exact congrArg (fun z => (z, true, ())) (and_all ty.scause)
  simp only [h322, cond_false] at ht ⊢
  cases h323 : iEq n 323
  rotate_left
  · simp only [h323, cond_true]
    exact congrArg (fun z => (z, true, ())) (and_all ty.stval)
  simp only [h323, cond_false] at ht ⊢
  cases h324 : iEq n 324
  rotate_left
  · simp only [h324, cond_true]
    exact congrArg (fun z => (z, true, ())) (and_assoc3 _ _ _)
  simp only [h324, cond_false] at ht ⊢
  cases h384 : iEq n 384
  rotate_left
  · simp only [h384, cond_true]
    try rfl
  simp only [h384, cond_false] at ht ⊢
  cases h768 : iEq n 768
  rotate_left
  · simp only [h768, cond_true]
    exact congrArg (fun z => (z, true, ())) (two_disj _)
  simp only [h768, cond_false] at ht ⊢
  cases h769 : iEq n 769
  rotate_left
  · simp only [h769, cond_true]
    try rfl
  simp only [h769, cond_false] at ht ⊢
  cases h770 : iEq n 770
  rotate_left
  · simp only [h770, cond_true]
    try rfl
  simp only [h770, cond_false] at ht ⊢
  cases h771 : iEq n 771
  rotate_left
  · simp only [h771, cond_true]
    try rfl
  simp only [h771, cond_false] at ht ⊢
  cases h772 : iEq n 772
  rotate_left
  · simp only [h772, cond_true]
    try rfl
  simp only [h772, cond_false] at ht ⊢
  cases h773 : iEq n 773
  rotate_left
  · simp only [h773, cond_true]
    try rfl
  simp only [h773, cond_false] at ht ⊢
  cases h774 : iEq n 774
  rotate_left
  · simp only [h774, cond_true]
    exact congrArg (fun z => (z, true, ())) (low_rem ty.mcounteren)
  simp only [h774, cond_false] at ht ⊢
  cases h832 : iEq n 832
  rotate_left
  · simp only [h832, cond_true]
    exact congrArg (fun z => (z, true, ())) (and_all ty.mscratch)
  simp only [h832, cond_false] at ht ⊢
  cases h833 : iEq n 833
  rotate_left
  · simp only [h833, cond_true]
    try rfl
  simp only [h833, cond_false] at ht ⊢
  cases h834 : iEq n 834
  rotate_left
  · simp only [h834, cond_true]
    exact congrArg (fun z => (z, true, ())) (and_all ty.mcause)
  simp only [h834, cond_false] at ht ⊢
  cases h835 : iEq n 835
  rotate_left
  · simp only [h835, cond_true]
    exact congrArg (fun z => (z, true, ())) (and_all ty.mtval)
  simp only [h835, cond_false] at ht ⊢
  cases h836 : iEq n 836
  rotate_left
  · simp only [h836, cond_true]
    try rfl
  simp only [h836, cond_false] at ht ⊢
  rw [and_all ty.cycle, and_all ty.instret]
  unfold two at ht ⊢
  cases h1 : iEq n 2816 <;> cases h2 : iEq n 3072 <;> cases h3 : iEq n 2818 <;> cases h4 : iEq n 3074 <;> cases h5 : iEq n 3073 <;> simp only [h1, h2, h3, h4, h5, cond_true, cond_false] at ht ⊢
  have hl : last n ((0 : Int), true, ()) (0, false, ()) = (0, last n true false, ()) := by
    unfold last tl
    cases iLe 928 n <;> cases iLe n 1007 <;> cases iLe 3857 n <;> cases bNot (iLe n 3860) <;> rfl
  rw [hl, ht]

/-! ### Writing -/
theorem lay_eq (a t m : Int) : iOr .u64 (iAndNot .u64 a m) (iAnd .u64 t m) = rLay a t m := by
  unfold rLay
  rw [or_bv, andNot_bv, and_bv, add_bv, sub_bv, and_bv, bv_bn, bv_bn, bv_bn, bv_bn, lay_bv]
theorem andNot_sub (t m : Int) : iAndNot .u64 t m = iSub .u64 t (iAnd .u64 t m) := by
  rw [andNot_bv, sub_bv, and_bv, bv_bn, and_not_sub]
theorem rem_and {t : Int} (h : inU t) : iRem t 2 = iAnd .u64 t 1 := by
  rw [iAnd_u_low _ 1 (by decide) (by decide), iRem_n h.1]; rfl
theorem mpp_eq {t : Int} (h : inU t) : iAnd .u64 (iShr .u64 (iAnd .u64 t 8264106) 11) 3 = iRem (iShr .u64 t 11) 4 := by
  have h1 : iRem (iShr .u64 t 11) 4 = iAnd .u64 (iShr .u64 t 11) 3 := by
    rw [iAnd_u_low _ 2 (by decide) (by decide), iRem_n (inU_shr h _ _).1]; rfl
  rw [h1, show (11 : Int) = ((11 : Nat) : Int) from rfl, shr_bv (inU_and _ _) 11 (by decide), shr_bv h 11 (by decide), and_bv, and_bv, and_bv, bv_bn, bv_bn, bv_bn, BitVec.ushiftRight_and_distrib, BitVec.and_assoc,
    show bv 8264106 >>> 11 &&& bv 3 = bv 3 by decide]
theorem mpp_v (t : Int) : iAndNot .u64 (iAnd .u64 t 8264106) 6144 = iAnd .u64 t 8257962 := by
  rw [andNot_bv, and_bv, and_bv, bv_bn, BitVec.and_assoc, show bv 8264106 &&& ~~~ bv 6144 = bv 8257962 by decide]
theorem and_comm2 (a b : Int) : iAnd .u64 a b = iAnd .u64 b a := by rw [and_bv, and_bv, BitVec.and_comm]

theorem write_eq {h : Hart} (ty : HTy h) (rt : HRt h) (n : Int) {t : Int} (hT : inU t) : bWrite h n t = rWrite h n t := by
  have ht : tab n true false = there n := by rw [tab_there]; cases there n <;> rfl
  have b1 : bMove h.stcc (iAndNot .u64 t 2) = rMove h.stcc (iSub .u64 t (iAnd .u64 t 2)) := by
    rw [bMove_rMove (right_bOk (rt.caps _ (by simp [capsOf])) ty.stcc.addr) (inU_andNot _ _), andNot_sub]
  have b2 : bMove h.mtcc (iAndNot .u64 t 2) = rMove h.mtcc (iSub .u64 t (iAnd .u64 t 2)) := by
    rw [bMove_rMove (right_bOk (rt.caps _ (by simp [capsOf])) ty.mtcc.addr) (inU_andNot _ _), andNot_sub]
  have b3 : bMove h.sepcc (iAndNot .u64 t 1) = rMove h.sepcc (iSub .u64 t (iRem t 2)) := by
    rw [bMove_rMove (right_bOk (rt.caps _ (by simp [capsOf])) ty.sepcc.addr) (inU_andNot _ _), andNot_sub, rem_and hT]
  have b4 : bMove h.mepcc (iAndNot .u64 t 1) = rMove h.mepcc (iSub .u64 t (iRem t 2)) := by
    rw [bMove_rMove (right_bOk (rt.caps _ (by simp [capsOf])) ty.mepcc.addr) (inU_andNot _ _), andNot_sub, rem_and hT]
  have key : bWrite h n t = bif there n then bif readOnly n then no_ h else rWr h n t else no_ h := by
    unfold bWrite rWr
    unfold tab at ht
    rw [and_all hT, low_rem hT, mpp_eq hT, mpp_v, b1, b2, b3, b4, lay_eq, lay_eq, lay_eq, and_comm2 2]
    unfold delegated
    cases h256 : iEq n 256
    rotate_left
    · simp only [h256, cond_true] at ht ⊢
      rw [← ht]
      rfl
    simp only [h256, cond_false] at ht ⊢
    cases h260 : iEq n 260
    rotate_left
    · simp only [h260, cond_true] at ht ⊢
      rw [← ht]
      rfl
    simp only [h260, cond_false] at ht ⊢
    cases h261 : iEq n 261
    rotate_left
    · simp only [h261, cond_true] at ht ⊢
      rw [← ht]
      rfl
    simp only [h261, cond_false] at ht ⊢
    cases h262 : iEq n 262
    rotate_left
    · simp only [h262, cond_true] at ht ⊢
      rw [← ht]
      rfl
    simp only [h262, cond_false] at ht ⊢
    cases h320 : iEq n 320
    rotate_left
    · simp only [h320, cond_true] at ht ⊢
      rw [← ht]
      rfl
    simp only [h320, cond_false] at ht ⊢
    cases h321 : iEq n 321
    rotate_left
    · simp only [h321, cond_true] at ht ⊢
      rw [← ht]
      rfl
    simp only [h321, cond_false] at ht ⊢
    cases h322 : iEq n 322
    rotate_left
    · simp only [h322, cond_true] at ht ⊢
      rw [← ht]
      rfl
    simp only [h322, cond_false] at ht ⊢
    cases h323 : iEq n 323
    rotate_left
    · simp only [h323, cond_true] at ht ⊢
      rw [← ht]
      rfl
    simp only [h323, cond_false] at ht ⊢
    cases h324 : iEq n 324
    rotate_left
    · simp only [h324, cond_true] at ht ⊢
      rw [← ht]
      rfl
    simp only [h324, cond_false] at ht ⊢
    cases h384 : iEq n 384
    rotate_left
    · simp only [h384, cond_true] at ht ⊢
      rw [← ht]
      rfl
    simp only [h384, cond_false] at ht ⊢
    cases h768 : iEq n 768
    rotate_left
    · simp only [h768, cond_true] at ht ⊢
      rw [← ht]
      rfl
    simp only [h768, cond_false] at ht ⊢
    cases h769 : iEq n 769
    rotate_left
    · simp only [h769, cond_true] at ht ⊢
      rw [← ht]
      rw [iEq_t] at h769; subst h769; kernel_rfl
    simp only [h769, cond_false] at ht ⊢
    cases h770 : iEq n 770
    rotate_left
    · simp only [h770, cond_true] at ht ⊢
      rw [← ht]
      rfl
    simp only [h770, cond_false] at ht ⊢
    cases h771 : iEq n 771
    rotate_left
    · simp only [h771, cond_true] at ht ⊢
      rw [← ht]
      rfl
    simp only [h771, cond_false] at ht ⊢
    cases h772 : iEq n 772
    rotate_left
    · simp only [h772, cond_true] at ht ⊢
      rw [← ht]
      rfl
    simp only [h772, cond_false] at ht ⊢
    cases h773 : iEq n 773
    rotate_left
    · simp only [h773, cond_true] at ht ⊢
      rw [← ht]
      rfl
    simp only [h773, cond_false] at ht ⊢
    cases h774 : iEq n 774
    rotate_left
    · simp only [h774, cond_true] at ht ⊢
      rw [← ht]
      rfl
    simp only [h774, cond_false] at ht ⊢
    cases h832 : iEq n 832
    rotate_left
    · simp only [h832, cond_true] at ht ⊢
      rw [← ht]
      rfl
    simp only [h832, cond_false] at ht ⊢
    cases h833 : iEq n 833
    rotate_left
    · simp only [h833, cond_true] at ht ⊢
      rw [← ht]
      rfl
    simp only [h833, cond_false] at ht ⊢
    cases h834 : iEq n 834
    rotate_left
    · simp only [h834, cond_true] at ht ⊢
      rw [← ht]
      rfl
    simp only [h834, cond_false] at ht ⊢
    cases h835 : iEq n 835
    rotate_left
    · simp only [h835, cond_true] at ht ⊢
      rw [← ht]
      rfl
    simp only [h835, cond_false] at ht ⊢
    cases h836 : iEq n 836
    rotate_left
    · simp only [h836, cond_true] at ht ⊢
      rw [← ht]
      rfl
    simp only [h836, cond_false] at ht ⊢
    unfold two at ht ⊢
    cases h1 : iEq n 2816
    rotate_left
    · simp only [h1, cond_true] at ht ⊢
      rw [← ht]; rfl
    cases h2 : iEq n 3072
    rotate_left
    · have hr : readOnly n = true := by rw [iEq_t] at h2; subst h2; decide +kernel
      simp only [h1, h2, hr, cond_true, cond_false] at ht ⊢
      rw [← ht]; rfl
    simp only [h1, h2, cond_false] at ht ⊢
    cases h3 : iEq n 2818
    rotate_left
    · simp only [h3, cond_true] at ht ⊢
      rw [← ht]; rfl
    cases h4 : iEq n 3074
    rotate_left
    · have hr : readOnly n = true := by rw [iEq_t] at h4; subst h4; decide +kernel
      simp only [h3, h4, hr, cond_true, cond_false] at ht ⊢
      rw [← ht]; rfl
    simp only [h3, h4, cond_false] at ht ⊢
    cases h5 : iEq n 3073
    rotate_left
    · have hr : readOnly n = true := by rw [iEq_t] at h5; subst h5; decide +kernel
      simp only [h5, hr, cond_true, cond_false] at ht ⊢
      rw [← ht]; rfl
    simp only [h5, cond_false] at ht ⊢
    have hl : last n (bif readOnly n then no_ h else (true, h, ())) (no_ h) = bif last n true false then (bif readOnly n then no_ h else (true, h, ())) else no_ h := by
      unfold last tl
      cases iLe 928 n <;> cases iLe n 1007 <;> cases iLe 3857 n <;> cases bNot (iLe n 3860) <;> rfl
    rw [hl, ht]
  rw [key]
  unfold rWrite
  rw [bNot_eq]
  cases hh : there n with
  | false => rfl
  | true =>
    have hb := there_bounds hh
    rw [readOnly_eq (by omega) (by omega)]
    rfl

end Go.Mir

namespace Go.Mir
open Go.Proofs

set_option maxRecDepth 100000

/-- Are two harts one? -/
def hEq (a b : Hart) : Bool := (bAnd (allN 32 fun i => capEq (a.x i) (b.x i)) (bAnd (capEq a.pcc b.pcc) (bAnd (capEq a.ddc b.ddc) (bAnd (capEq a.stcc b.stcc) (bAnd (capEq a.stdc b.stdc) (bAnd (capEq a.sscr b.sscr) (bAnd (capEq a.sepcc b.sepcc) (bAnd (capEq a.mtcc b.mtcc) (bAnd (capEq a.mtdc b.mtdc) (bAnd (capEq a.mscr b.mscr) (bAnd (capEq a.mepcc b.mepcc) (bAnd (iEq a.priv b.priv) (bAnd (iEq a.mstatus b.mstatus) (bAnd (iEq a.medeleg b.medeleg) (bAnd (iEq a.mideleg b.mideleg) (bAnd (iEq a.mie b.mie) (bAnd (iEq a.mip b.mip) (bAnd (iEq a.mscratch b.mscratch) (bAnd (iEq a.sscratch b.sscratch) (bAnd (iEq a.mcause b.mcause) (bAnd (iEq a.scause b.scause) (bAnd (iEq a.mtval b.mtval) (bAnd (iEq a.stval b.stval) (bAnd (iEq a.satp b.satp) (bAnd (iEq a.mcounteren b.mcounteren) (bAnd (iEq a.scounteren b.scounteren) (bAnd (iEq a.cycle b.cycle) (bAnd (iEq a.instret b.instret) (bEq a.waiting b.waiting)))))))))))))))))))))))))))))
theorem hEq_self (a : Hart) : hEq a a = true := by
  unfold hEq
  simp only [bAnd_eq, bEq_eq]
  unfold capEq iEq allN
  simp

def ok32 : Prop := okN 32 fun _ => true
theorem ok32_t : ok32 := by unfold ok32 okN; decide

noncomputable def gTells (h : Hart) (n : Int) (w : Bool) (v t l : Int) : T Bool :=
  .br (bNot (hartRight h)) (.ret true) <| .br (bNot (trapEq (bMay h n w) (rMay h n w))) (.ret false) <| .need ok32 <| .br (bNot (hEq h h)) (.ret false) <|
  .br (bNot (iEq (bRead h n t l).1 (rRead h n t l).1)) (.ret false) <| .br (bNot (bEq (bRead h n t l).2.1 (rRead h n t l).2.1)) (.ret false) <| .need ok32 <| .br (bNot (hEq h h)) (.ret false) <|
  .need (fourOk h) <| .need (fourOk h) <| .br (bEq (bWrite h n v).1 (rWrite h n v).1) (.need ok32 <| .br (hEq (bWrite h n v).2.1 (rWrite h n v).2.1) (.ret true) (.ret false)) (.ret false)

theorem f3_t (h : Hart) (n : Int) (w : Bool) (v t l : Int) : runT (mkCtx csrRows psT ssL 0) Try.f3 [.v .hart, .v i64, .v .bo, .v u64, .v u64, .v u64] (.one .bo) (h, n, w, v, t, l, ()) = (gTells h n w v t l).mp fun r => (r, ()) := by kernel_rfl

theorem gTells_h {h : Hart} (ty : HTy h) (n : Int) (w : Bool) {v : Int} (hv : inU v) (t l : Int) : (gTells h n w v t l).holds fun r => r = true := by
  unfold gTells
  refine ⟨fun _ => rfl, fun hr => ?_⟩
  rw [bNot_f, hartRight_iff] at hr
  rw [may_eq ty hr, read_eq ty, write_eq ty hr n hv]
  have e1 : ∀ a : Trap, bNot (trapEq a a) = false := fun a => by rw [bNot_eq]; unfold trapEq; simp
  have e2 : bNot (hEq h h) = false := by rw [bNot_eq, hEq_self]; rfl
  have e3 : ∀ a : Int, bNot (iEq a a) = false := fun a => by rw [bNot_eq, iEq_t.2 rfl]; rfl
  have e4 : ∀ a : Bool, bEq a a = true := fun a => by rw [bEq_eq]; simp
  have no : ∀ {b : Bool} {P : Prop}, b = false → b = true → P := fun h h' => by rw [h] at h'; cases h'
  refine ⟨no (e1 _), fun _ => ⟨ok32_t, no e2, fun _ => ⟨no (e3 _), fun _ => ⟨no (by rw [bNot_eq, e4]; rfl), fun _ => ⟨ok32_t, no e2, fun _ => ⟨hr.four, hr.four, fun _ => ⟨ok32_t, fun _ => rfl, fun h' => ?_⟩, fun h' => ?_⟩⟩⟩⟩⟩⟩
  · rw [hEq_self] at h'; cases h'
  · rw [e4] at h'; cases h'

theorem f3_h {h : Hart} (ty : HTy h) (n : Int) (w : Bool) {v : Int} (hv : inU v) (t l : Int) : (runT (mkCtx csrRows psT ssL 0) Try.f3 [.v .hart, .v i64, .v .bo, .v u64, .v u64, .v u64] (.one .bo) (h, n, w, v, t, l, ())).holds fun r => r.1 = true := by
  rw [f3_t]
  exact T.mp_holds (gTells_h ty n w hv t l)

end Go.Mir

namespace Go.Mir
open Go.Proofs

set_option maxRecDepth 100000

/-! ### What a register reads as looks at its own numbers alone -/
theorem rd_mstatus (h : Hart) (X : Int) (o t l : Int) (h256 : iEq o 256 = false) (h768 : iEq o 768 = false) : bRead { h with mstatus := X } o t l = bRead h o t l := by
  unfold bRead two mipV delegated
  simp only [h256, h768, cond_false]
theorem rd_mie (h : Hart) (X : Int) (o t l : Int) (h260 : iEq o 260 = false) (h772 : iEq o 772 = false) : bRead { h with mie := X } o t l = bRead h o t l := by
  unfold bRead two mipV delegated
  simp only [h260, h772, cond_false]
theorem rd_stcc (h : Hart) (X : Cap) (o t l : Int) (h261 : iEq o 261 = false) : bRead { h with stcc := X } o t l = bRead h o t l := by
  unfold bRead two mipV delegated
  simp only [h261, cond_false]
theorem rd_scounteren (h : Hart) (X : Int) (o t l : Int) (h262 : iEq o 262 = false) : bRead { h with scounteren := X } o t l = bRead h o t l := by
  unfold bRead two mipV delegated
  simp only [h262, cond_false]
theorem rd_sscratch (h : Hart) (X : Int) (o t l : Int) (h320 : iEq o 320 = false) : bRead { h with sscratch := X } o t l = bRead h o t l := by
  unfold bRead two mipV delegated
  simp only [h320, cond_false]
theorem rd_sepcc (h : Hart) (X : Cap) (o t l : Int) (h321 : iEq o 321 = false) : bRead { h with sepcc := X } o t l = bRead h o t l := by
  unfold bRead two mipV delegated
  simp only [h321, cond_false]
theorem rd_scause (h : Hart) (X : Int) (o t l : Int) (h322 : iEq o 322 = false) : bRead { h with scause := X } o t l = bRead h o t l := by
  unfold bRead two mipV delegated
  simp only [h322, cond_false]
theorem rd_stval (h : Hart) (X : Int) (o t l : Int) (h323 : iEq o 323 = false) : bRead { h with stval := X } o t l = bRead h o t l := by
  unfold bRead two mipV delegated
  simp only [h323, cond_false]
theorem rd_mip (h : Hart) (X : Int) (o t l : Int) (h324 : iEq o 324 = false) (h836 : iEq o 836 = false) : bRead { h with mip := X } o t l = bRead h o t l := by
  unfold bRead two mipV delegated
  simp only [h324, h836, cond_false]
theorem rd_satp (h : Hart) (X : Int) (o t l : Int) (h384 : iEq o 384 = false) : bRead { h with satp := X } o t l = bRead h o t l := by
  unfold bRead two mipV delegated
  simp only [h384, cond_false]
theorem rd_medeleg (h : Hart) (X : Int) (o t l : Int) (h770 : iEq o 770 = false) : bRead { h with medeleg := X } o t l = bRead h o t l := by
  unfold bRead two mipV delegated
  simp only [h770, cond_false]
theorem rd_mideleg (h : Hart) (X : Int) (o t l : Int) (h260 : iEq o 260 = false) (h324 : iEq o 324 = false) (h771 : iEq o 771 = false) : bRead { h with mideleg := X } o t l = bRead h o t l := by
  unfold bRead two mipV delegated
  simp only [h260, h324, h771, cond_false]
theorem rd_mtcc (h : Hart) (X : Cap) (o t l : Int) (h773 : iEq o 773 = false) : bRead { h with mtcc := X } o t l = bRead h o t l := by
  unfold bRead two mipV delegated
  simp only [h773, cond_false]
theorem rd_mcounteren (h : Hart) (X : Int) (o t l : Int) (h774 : iEq o 774 = false) : bRead { h with mcounteren := X } o t l = bRead h o t l := by
  unfold bRead two mipV delegated
  simp only [h774, cond_false]
theorem rd_mscratch (h : Hart) (X : Int) (o t l : Int) (h832 : iEq o 832 = false) : bRead { h with mscratch := X } o t l = bRead h o t l := by
  unfold bRead two mipV delegated
  simp only [h832, cond_false]
theorem rd_mepcc (h : Hart) (X : Cap) (o t l : Int) (h833 : iEq o 833 = false) : bRead { h with mepcc := X } o t l = bRead h o t l := by
  unfold bRead two mipV delegated
  simp only [h833, cond_false]
theorem rd_mcause (h : Hart) (X : Int) (o t l : Int) (h834 : iEq o 834 = false) : bRead { h with mcause := X } o t l = bRead h o t l := by
  unfold bRead two mipV delegated
  simp only [h834, cond_false]
theorem rd_mtval (h : Hart) (X : Int) (o t l : Int) (h835 : iEq o 835 = false) : bRead { h with mtval := X } o t l = bRead h o t l := by
  unfold bRead two mipV delegated
  simp only [h835, cond_false]
theorem rd_cycle (h : Hart) (X : Int) (o t l : Int) (h2816 : iEq o 2816 = false) (h3072 : iEq o 3072 = false) : bRead { h with cycle := X } o t l = bRead h o t l := by
  unfold bRead two mipV delegated
  simp only [h2816, h3072, cond_false]
theorem rd_instret (h : Hart) (X : Int) (o t l : Int) (h2818 : iEq o 2818 = false) (h3074 : iEq o 3074 = false) : bRead { h with instret := X } o t l = bRead h o t l := by
  unfold bRead two mipV delegated
  simp only [h2818, h3074, cond_false]

/-! ### What is written, number by number -/
theorem bw_256 (h : Hart) (t : Int) : bWrite h 256 t = (true, { h with mstatus := iOr .u64 (iAndNot .u64 h.mstatus 786722) (iAnd .u64 t 786722) }, ()) := by kernel_rfl
theorem bw_260 (h : Hart) (t : Int) : bWrite h 260 t = (true, { h with mie := iOr .u64 (iAndNot .u64 h.mie (delegated h)) (iAnd .u64 t (delegated h)) }, ()) := by kernel_rfl
theorem bw_261 (h : Hart) (t : Int) : bWrite h 261 t = (true, { h with stcc := bMove h.stcc (iAndNot .u64 t 2) }, ()) := by kernel_rfl
theorem bw_262 (h : Hart) (t : Int) : bWrite h 262 t = (true, { h with scounteren := iAnd .u64 t 7 }, ()) := by kernel_rfl
theorem bw_320 (h : Hart) (t : Int) : bWrite h 320 t = (true, { h with sscratch := iAnd .u64 t 18446744073709551615 }, ()) := by kernel_rfl
theorem bw_321 (h : Hart) (t : Int) : bWrite h 321 t = (true, { h with sepcc := bMove h.sepcc (iAndNot .u64 t 1) }, ()) := by kernel_rfl
theorem bw_322 (h : Hart) (t : Int) : bWrite h 322 t = (true, { h with scause := iAnd .u64 t 18446744073709551615 }, ()) := by kernel_rfl
theorem bw_323 (h : Hart) (t : Int) : bWrite h 323 t = (true, { h with stval := iAnd .u64 t 18446744073709551615 }, ()) := by kernel_rfl
theorem bw_324 (h : Hart) (t : Int) : bWrite h 324 t = (true, { h with mip := iOr .u64 (iAndNot .u64 h.mip (iAnd .u64 2 h.mideleg)) (iAnd .u64 t (iAnd .u64 2 h.mideleg)) }, ()) := by kernel_rfl
theorem bw_770 (h : Hart) (t : Int) : bWrite h 770 t = (true, { h with medeleg := iAnd .u64 t 402699263 }, ()) := by kernel_rfl
theorem bw_771 (h : Hart) (t : Int) : bWrite h 771 t = (true, { h with mideleg := iAnd .u64 t 546 }, ()) := by kernel_rfl
theorem bw_772 (h : Hart) (t : Int) : bWrite h 772 t = (true, { h with mie := iAnd .u64 t 2730 }, ()) := by kernel_rfl
theorem bw_773 (h : Hart) (t : Int) : bWrite h 773 t = (true, { h with mtcc := bMove h.mtcc (iAndNot .u64 t 2) }, ()) := by kernel_rfl
theorem bw_774 (h : Hart) (t : Int) : bWrite h 774 t = (true, { h with mcounteren := iAnd .u64 t 7 }, ()) := by kernel_rfl
theorem bw_832 (h : Hart) (t : Int) : bWrite h 832 t = (true, { h with mscratch := iAnd .u64 t 18446744073709551615 }, ()) := by kernel_rfl
theorem bw_833 (h : Hart) (t : Int) : bWrite h 833 t = (true, { h with mepcc := bMove h.mepcc (iAndNot .u64 t 1) }, ()) := by kernel_rfl
theorem bw_834 (h : Hart) (t : Int) : bWrite h 834 t = (true, { h with mcause := iAnd .u64 t 18446744073709551615 }, ()) := by kernel_rfl
theorem bw_835 (h : Hart) (t : Int) : bWrite h 835 t = (true, { h with mtval := iAnd .u64 t 18446744073709551615 }, ()) := by kernel_rfl
theorem bw_836 (h : Hart) (t : Int) : bWrite h 836 t = (true, { h with mip := iAnd .u64 t 546 }, ()) := by kernel_rfl
theorem bw_2816 (h : Hart) (t : Int) : bWrite h 2816 t = (true, { h with cycle := iAnd .u64 t 18446744073709551615 }, ()) := by kernel_rfl
theorem bw_2818 (h : Hart) (t : Int) : bWrite h 2818 t = (true, { h with instret := iAnd .u64 t 18446744073709551615 }, ()) := by kernel_rfl
theorem bw_384 (h : Hart) (t : Int) : bWrite h 384 t = bif iEq (iShr .u64 t 60) 0 then (true, { h with satp := t }, ()) else bif iEq (iShr .u64 t 60) 8 then (true, { h with satp := t }, ()) else (true, h, ()) := by kernel_rfl
def mst (t : Int) : Int := bif iEq (iAnd .u64 (iShr .u64 (iAnd .u64 t 8264106) 11) 3) 2 then iAndNot .u64 (iAnd .u64 t 8264106) 6144 else iAnd .u64 t 8264106
theorem bw_768 (h : Hart) (t : Int) : bWrite h 768 t = (true, { h with mstatus := mst t }, ()) := by
  have e : bWrite h 768 t = bif iEq (iAnd .u64 (iShr .u64 (iAnd .u64 t 8264106) 11) 3) 2 then (true, { h with mstatus := iAndNot .u64 (iAnd .u64 t 8264106) 6144 }, ()) else (true, { h with mstatus := iAnd .u64 t 8264106 }, ()) := by kernel_rfl
  rw [e]
  unfold mst
  cases iEq (iAnd .u64 (iShr .u64 (iAnd .u64 t 8264106) 11) 3) 2 <;> rfl
theorem bw_769 (h : Hart) (t : Int) : bWrite h 769 t = (true, h, ()) := by kernel_rfl
theorem bw_3072 (h : Hart) (t : Int) : bWrite h 3072 t = no_ h := by kernel_rfl
theorem bw_3073 (h : Hart) (t : Int) : bWrite h 3073 t = no_ h := by kernel_rfl
theorem bw_3074 (h : Hart) (t : Int) : bWrite h 3074 t = no_ h := by kernel_rfl
theorem bw_oth (h : Hart) (n t : Int)
    (h256 : n ≠ 256) (h260 : n ≠ 260) (h261 : n ≠ 261) (h262 : n ≠ 262) (h320 : n ≠ 320) (h321 : n ≠ 321) (h322 : n ≠ 322) (h323 : n ≠ 323) (h324 : n ≠ 324) (h384 : n ≠ 384) (h768 : n ≠ 768) (h769 : n ≠ 769) (h770 : n ≠ 770) (h771 : n ≠ 771) (h772 : n ≠ 772) (h773 : n ≠ 773) (h774 : n ≠ 774) (h832 : n ≠ 832) (h833 : n ≠ 833) (h834 : n ≠ 834) (h835 : n ≠ 835) (h836 : n ≠ 836) (h2816 : n ≠ 2816) (h3072 : n ≠ 3072) (h2818 : n ≠ 2818) (h3074 : n ≠ 3074) (h3073 : n ≠ 3073)
    : bWrite h n t = last n (bif readOnly n then no_ h else (true, h, ())) (no_ h) := by
  unfold bWrite two
  rw [iEq_f.2 h256, iEq_f.2 h260, iEq_f.2 h261, iEq_f.2 h262, iEq_f.2 h320, iEq_f.2 h321, iEq_f.2 h322, iEq_f.2 h323, iEq_f.2 h324, iEq_f.2 h384, iEq_f.2 h768, iEq_f.2 h769, iEq_f.2 h770, iEq_f.2 h771, iEq_f.2 h772, iEq_f.2 h773, iEq_f.2 h774, iEq_f.2 h832, iEq_f.2 h833, iEq_f.2 h834, iEq_f.2 h835, iEq_f.2 h836, iEq_f.2 h2816, iEq_f.2 h3072, iEq_f.2 h2818, iEq_f.2 h3074, iEq_f.2 h3073]
  rfl

theorem last_or {α : Type} (n : Int) (x y : α) : last n x y = x ∨ last n x y = y := by
  unfold last tl
  cases iLe 928 n <;> cases iLe n 1007 <;> cases iLe 3857 n <;> cases bNot (iLe n 3860) <;> simp

theorem alL_f : ∀ (l : List (Int × Int)) (n m : Int), alL l n m = false → (∀ p ∈ l, ¬ (p.1 = n ∧ p.2 = m)) ∧ n ≠ m
  | [], n, m, h => ⟨fun p hp => (by cases hp), iEq_f.1 h⟩
  | q :: l, n, m, h => by
    unfold alL at h
    cases h1 : iEq q.1 n with
    | false =>
      rw [h1] at h
      obtain ⟨a, b⟩ := alL_f l n m h
      refine ⟨fun p hp => ?_, b⟩
      rcases List.mem_cons.1 hp with rfl | hp
      · exact fun e => iEq_f.1 h1 e.1
      · exact a p hp
    | true =>
      rw [h1] at h
      cases h2 : iEq q.2 m with
      | true => rw [h2] at h; cases h
      | false =>
        rw [h2] at h
        obtain ⟨a, b⟩ := alL_f l n m h
        refine ⟨fun p hp => ?_, b⟩
        rcases List.mem_cons.1 hp with rfl | hp
        · exact fun e => iEq_f.1 h2 e.2
        · exact a p hp

/-- What stays behind a write. -/
structure Kept (a b : Hart) (o t l : Int) (done : Bool) : Prop where
  rd : bRead b o t l = bRead a o t l
  x : b.x = a.x
  pcc : b.pcc = a.pcc
  ddc : b.ddc = a.ddc
  stdc : b.stdc = a.stdc
  sscr : b.sscr = a.sscr
  mtdc : b.mtdc = a.mtdc
  mscr : b.mscr = a.mscr
  priv : b.priv = a.priv
  waiting : b.waiting = a.waiting
  all : done = false → b = a

theorem Kept.same (a : Hart) (o t l : Int) (d : Bool) : Kept a a o t l d := ⟨rfl, rfl, rfl, rfl, rfl, rfl, rfl, rfl, rfl, rfl, fun _ => rfl⟩
theorem done_not {a b : Hart} (h : true = false) : b = a := by cases h

theorem only_eq (h : Hart) (n o v t l : Int) (ha : alL als n o = false) : Kept h (bWrite h n v).2.1 o t l (bWrite h n v).1 := by
  obtain ⟨al, hno⟩ := alL_f _ _ _ ha
  have ali : ∀ a b : Int, (a, b) ∈ als → n = a → iEq o b = false := fun a b hm hn => iEq_f.2 fun e => al (a, b) hm ⟨hn.symm, e.symm⟩
  by_cases e256 : n = 256
  · have self : iEq o 256 = false := iEq_f.2 fun e => hno (by rw [e256, e])
    subst e256
    rw [bw_256]
    exact ⟨rd_mstatus _ _ _ _ _ self (ali 256 768 (by decide) rfl), rfl, rfl, rfl, rfl, rfl, rfl, rfl, rfl, rfl, done_not⟩
  by_cases e260 : n = 260
  · have self : iEq o 260 = false := iEq_f.2 fun e => hno (by rw [e260, e])
    subst e260
    rw [bw_260]
    exact ⟨rd_mie _ _ _ _ _ self (ali 260 772 (by decide) rfl), rfl, rfl, rfl, rfl, rfl, rfl, rfl, rfl, rfl, done_not⟩
  by_cases e261 : n = 261
  · have self : iEq o 261 = false := iEq_f.2 fun e => hno (by rw [e261, e])
    subst e261
    rw [bw_261]
    exact ⟨rd_stcc _ _ _ _ _ self, rfl, rfl, rfl, rfl, rfl, rfl, rfl, rfl, rfl, done_not⟩
  by_cases e262 : n = 262
  · have self : iEq o 262 = false := iEq_f.2 fun e => hno (by rw [e262, e])
    subst e262
    rw [bw_262]
    exact ⟨rd_scounteren _ _ _ _ _ self, rfl, rfl, rfl, rfl, rfl, rfl, rfl, rfl, rfl, done_not⟩
  by_cases e320 : n = 320
  · have self : iEq o 320 = false := iEq_f.2 fun e => hno (by rw [e320, e])
    subst e320
    rw [bw_320]
    exact ⟨rd_sscratch _ _ _ _ _ self, rfl, rfl, rfl, rfl, rfl, rfl, rfl, rfl, rfl, done_not⟩
  by_cases e321 : n = 321
  · have self : iEq o 321 = false := iEq_f.2 fun e => hno (by rw [e321, e])
    subst e321
    rw [bw_321]
    exact ⟨rd_sepcc _ _ _ _ _ self, rfl, rfl, rfl, rfl, rfl, rfl, rfl, rfl, rfl, done_not⟩
  by_cases e322 : n = 322
  · have self : iEq o 322 = false := iEq_f.2 fun e => hno (by rw [e322, e])
    subst e322
    rw [bw_322]
    exact ⟨rd_scause _ _ _ _ _ self, rfl, rfl, rfl, rfl, rfl, rfl, rfl, rfl, rfl, done_not⟩
  by_cases e323 : n = 323
  · have self : iEq o 323 = false := iEq_f.2 fun e => hno (by rw [e323, e])
    subst e323
    rw [bw_323]
    exact ⟨rd_stval _ _ _ _ _ self, rfl, rfl, rfl, rfl, rfl, rfl, rfl, rfl, rfl, done_not⟩
  by_cases e324 : n = 324
  · have self : iEq o 324 = false := iEq_f.2 fun e => hno (by rw [e324, e])
    subst e324
    rw [bw_324]
    exact ⟨rd_mip _ _ _ _ _ self (ali 324 836 (by decide) rfl), rfl, rfl, rfl, rfl, rfl, rfl, rfl, rfl, rfl, done_not⟩
  by_cases e384 : n = 384
  · have self : iEq o 384 = false := iEq_f.2 fun e => hno (by rw [e384, e])
    subst e384
    rw [bw_384]
    cases iEq (iShr .u64 v 60) 0
    · cases iEq (iShr .u64 v 60) 8
      · exact Kept.same _ _ _ _ _
      · exact ⟨rd_satp _ _ _ _ _ self, rfl, rfl, rfl, rfl, rfl, rfl, rfl, rfl, rfl, done_not⟩
    · exact ⟨rd_satp _ _ _ _ _ self, rfl, rfl, rfl, rfl, rfl, rfl, rfl, rfl, rfl, done_not⟩
  by_cases e768 : n = 768
  · have self : iEq o 768 = false := iEq_f.2 fun e => hno (by rw [e768, e])
    subst e768
    rw [bw_768]
    exact ⟨rd_mstatus _ _ _ _ _ (ali 768 256 (by decide) rfl) self, rfl, rfl, rfl, rfl, rfl, rfl, rfl, rfl, rfl, done_not⟩
  by_cases e769 : n = 769
  · have self : iEq o 769 = false := iEq_f.2 fun e => hno (by rw [e769, e])
    subst e769
    rw [bw_769]
    exact Kept.same _ _ _ _ _
  by_cases e770 : n = 770
  · have self : iEq o 770 = false := iEq_f.2 fun e => hno (by rw [e770, e])
    subst e770
    rw [bw_770]
    exact ⟨rd_medeleg _ _ _ _ _ self, rfl, rfl, rfl, rfl, rfl, rfl, rfl, rfl, rfl, done_not⟩
  by_cases e771 : n = 771
  · have self : iEq o 771 = false := iEq_f.2 fun e => hno (by rw [e771, e])
    subst e771
    rw [bw_771]
    exact ⟨rd_mideleg _ _ _ _ _ (ali 771 260 (by decide) rfl) (ali 771 324 (by decide) rfl) self, rfl, rfl, rfl, rfl, rfl, rfl, rfl, rfl, rfl, done_not⟩
  by_cases e772 : n = 772
  · have self : iEq o 772 = false := iEq_f.2 fun e => hno (by rw [e772, e])
    subst e772
    rw [bw_772]
    exact ⟨rd_mie _ _ _ _ _ (ali 772 260 (by decide) rfl) self, rfl, rfl, rfl, rfl, rfl, rfl, rfl, rfl, rfl, done_not⟩
  by_cases e773 : n = 773
  · have self : iEq o 773 = false := iEq_f.2 fun e => hno (by rw [e773, e])
    subst e773
    rw [bw_773]
    exact ⟨rd_mtcc _ _ _ _ _ self, rfl, rfl, rfl, rfl, rfl, rfl, rfl, rfl, rfl, done_not⟩
  by_cases e774 : n = 774
  · have self : iEq o 774 = false := iEq_f.2 fun e => hno (by rw [e774, e])
    subst e774
    rw [bw_774]
    exact ⟨rd_mcounteren _ _ _ _ _ self, rfl, rfl, rfl, rfl, rfl, rfl, rfl, rfl, rfl, done_not⟩
  by_cases e832 : n = 832
  · have self : iEq o 832 = false := iEq_f.2 fun e => hno (by rw [e832, e])
    subst e832
    rw [bw_832]
    exact ⟨rd_mscratch _ _ _ _ _ self, rfl, rfl, rfl, rfl, rfl, rfl, rfl, rfl, rfl, done_not⟩
  by_cases e833 : n = 833
  · have self : iEq o 833 = false := iEq_f.2 fun e => hno (by rw [e833, e])
    subst e833
    rw [bw_833]
    exact ⟨rd_mepcc _ _ _ _ _ self, rfl, rfl, rfl, rfl, rfl, rfl, rfl, rfl, rfl, done_not⟩
  by_cases e834 : n = 834
  · have self : iEq o 834 = false := iEq_f.2 fun e => hno (by rw [e834, e])
    subst e834
    rw [bw_834]
    exact ⟨rd_mcause _ _ _ _ _ self, rfl, rfl, rfl, rfl, rfl, rfl, rfl, rfl, rfl, done_not⟩
  by_cases e835 : n = 835
  · have self : iEq o 835 = false := iEq_f.2 fun e => hno (by rw [e835, e])
    subst e835
    rw [bw_835]
    exact ⟨rd_mtval _ _ _ _ _ self, rfl, rfl, rfl, rfl, rfl, rfl, rfl, rfl, rfl, done_not⟩
  by_cases e836 : n = 836
  · have self : iEq o 836 = false := iEq_f.2 fun e => hno (by rw [e836, e])
    subst e836
    rw [bw_836]
    exact ⟨rd_mip _ _ _ _ _ (ali 836 324 (by decide) rfl) self, rfl, rfl, rfl, rfl, rfl, rfl, rfl, rfl, rfl, done_not⟩
  by_cases e2816 : n = 2816
  · have self : iEq o 2816 = false := iEq_f.2 fun e => hno (by rw [e2816, e])
    subst e2816
    rw [bw_2816]
    exact ⟨rd_cycle _ _ _ _ _ self (ali 2816 3072 (by decide) rfl), rfl, rfl, rfl, rfl, rfl, rfl, rfl, rfl, rfl, done_not⟩
  by_cases e3072 : n = 3072
  · have self : iEq o 3072 = false := iEq_f.2 fun e => hno (by rw [e3072, e])
    subst e3072
    rw [bw_3072]
    exact Kept.same _ _ _ _ _
  by_cases e2818 : n = 2818
  · have self : iEq o 2818 = false := iEq_f.2 fun e => hno (by rw [e2818, e])
    subst e2818
    rw [bw_2818]
    exact ⟨rd_instret _ _ _ _ _ self (ali 2818 3074 (by decide) rfl), rfl, rfl, rfl, rfl, rfl, rfl, rfl, rfl, rfl, done_not⟩
  by_cases e3074 : n = 3074
  · have self : iEq o 3074 = false := iEq_f.2 fun e => hno (by rw [e3074, e])
    subst e3074
    rw [bw_3074]
    exact Kept.same _ _ _ _ _
  by_cases e3073 : n = 3073
  · have self : iEq o 3073 = false := iEq_f.2 fun e => hno (by rw [e3073, e])
    subst e3073
    rw [bw_3073]
    exact Kept.same _ _ _ _ _
  rw [bw_oth h n v e256 e260 e261 e262 e320 e321 e322 e323 e324 e384 e768 e769 e770 e771 e772 e773 e774 e832 e833 e834 e835 e836 e2816 e3072 e2818 e3074 e3073]
  rcases last_or n (bif readOnly n then no_ h else ((true, h, ()) : Wr)) (no_ h) with e | e
  · rw [e]
    cases readOnly n <;> exact Kept.same _ _ _ _ _
  · rw [e]; exact Kept.same _ _ _ _ _

noncomputable def onlyEnd (h a : Hart) : T Bool :=
  .need ok32 <| .br (allN 32 fun i => capEq (a.x i) (h.x i)) (.br (capEq a.pcc h.pcc) (.br (capEq a.ddc h.ddc) (.br (capEq a.stdc h.stdc) (.br (capEq a.sscr h.sscr) (.br (capEq a.mtdc h.mtdc) (.br (capEq a.mscr h.mscr) (.br (iEq a.priv h.priv) (.br (bEq a.waiting h.waiting) (.ret true) (.ret false)) (.ret false)) (.ret false)) (.ret false)) (.ret false)) (.ret false)) (.ret false)) (.ret false)) (.ret false)
noncomputable def onlyRd (h a : Hart) (o t l : Int) : T Bool :=
  .br (bNot (iEq (bRead h o t l).1 (bRead a o t l).1)) (.ret false) <| .br (bNot (bEq (bRead h o t l).2.1 (bRead a o t l).2.1)) (.ret false) (onlyEnd h a)
noncomputable def gOnly (h : Hart) (n o v t l : Int) : T Bool :=
  .br (bNot (hartRight h)) (.ret true) <| .br (alL als n o) (.ret true) <| .need (fourOk h) <|
  .br (bNot (bWrite h n v).1) (.need ok32 <| .br (bNot (hEq (bWrite h n v).2.1 h)) (.ret false) (onlyRd h (bWrite h n v).2.1 o t l)) (onlyRd h (bWrite h n v).2.1 o t l)

theorem f5_t (h : Hart) (n o v t l : Int) : runT (mkCtx csrRows psT ssL 0) Try.f5 [.v .hart, .v i64, .v i64, .v u64, .v u64, .v u64] (.one .bo) (h, n, o, v, t, l, ()) = (gOnly h n o v t l).mp fun r => (r, ()) := by kernel_rfl

theorem onlyRd_h {h a : Hart} {o t l : Int} {d : Bool} (k : Kept h a o t l d) : (onlyRd h a o t l).holds fun r => r = true := by
  have no : ∀ {b : Bool} {P : Prop}, b = false → b = true → P := fun h h' => by rw [h] at h'; cases h'
  have no' : ∀ {b : Bool} {P : Prop}, b = true → b = false → P := fun h h' => by rw [h] at h'; cases h'
  have e3 : ∀ a b : Int, a = b → bNot (iEq a b) = false := fun a b e => by rw [bNot_eq, iEq_t.2 e]; rfl
  have e4 : ∀ a b : Bool, a = b → bEq a b = true := fun a b e => by rw [bEq_eq, e]; simp
  have e5 : ∀ a b : Cap, a = b → capEq a b = true := fun a b e => by unfold capEq; simp [e]
  have e6 : (allN 32 fun i => capEq (a.x i) (h.x i)) = true := by unfold allN; rw [k.x]; unfold capEq; simp
  refine ⟨no (e3 _ _ (by rw [k.rd])), fun _ => ⟨no (by rw [bNot_eq, e4 _ _ (by rw [k.rd])]; rfl), fun _ => ⟨ok32_t, ?_⟩⟩⟩
  refine ⟨fun _ => ⟨fun _ => ⟨fun _ => ⟨fun _ => ⟨fun _ => ⟨fun _ => ⟨fun _ => ⟨fun _ => ⟨fun _ => rfl, no' (e4 _ _ k.waiting)⟩, no' (iEq_t.2 k.priv)⟩, no' (e5 _ _ k.mscr)⟩, no' (e5 _ _ k.mtdc)⟩, no' (e5 _ _ k.sscr)⟩, no' (e5 _ _ k.stdc)⟩, no' (e5 _ _ k.ddc)⟩, no' (e5 _ _ k.pcc)⟩, no' e6⟩

theorem gOnly_h (h : Hart) (n o v t l : Int) : (gOnly h n o v t l).holds fun r => r = true := by
  have no : ∀ {b : Bool} {P : Prop}, b = false → b = true → P := fun h h' => by rw [h] at h'; cases h'
  refine ⟨fun _ => rfl, fun hr => ⟨fun _ => rfl, fun ha => ?_⟩⟩
  rw [bNot_f, hartRight_iff] at hr
  have k := only_eq h n o v t l ha
  refine ⟨hr.four, fun hd => ⟨ok32_t, no ?_, fun _ => onlyRd_h k⟩, fun _ => onlyRd_h k⟩
  rw [bNot_t] at hd
  rw [k.all hd, hEq_self, bNot_eq]; rfl

theorem f5_h (h : Hart) (n o v t l : Int) : (runT (mkCtx csrRows psT ssL 0) Try.f5 [.v .hart, .v i64, .v i64, .v u64, .v u64, .v u64] (.one .bo) (h, n, o, v, t, l, ())).holds fun r => r.1 = true := by
  rw [f5_t]
  exact T.mp_holds (gOnly_h h n o v t l)

end Go.Mir

namespace Go.Mir
open Go.Proofs

set_option maxRecDepth 100000

/-! ### Bits -/
theorem and2 (v m : Int) : iAnd .u64 (iAnd .u64 v m) m = iAnd .u64 v m := by rw [and_bv, and_bv, bv_bn, BitVec.and_assoc, BitVec.and_self]
theorem andNot2 (v m : Int) : iAndNot .u64 (iAndNot .u64 v m) m = iAndNot .u64 v m := by rw [andNot_bv, andNot_bv, bv_bn, BitVec.and_assoc, BitVec.and_self]
theorem or_and_out (a m u : Int) (h : bv u &&& bv m = 0#64) : iAnd .u64 (iOr .u64 a u) m = iAnd .u64 a m := by
  rw [and_bv, or_bv, bv_bn, and_bv, BitVec.and_comm, BitVec.and_or_distrib_left, BitVec.and_comm (bv m) (bv u), h, BitVec.or_zero, BitVec.and_comm]
theorem lay_and (a v m : Int) : iAnd .u64 (iOr .u64 (iAndNot .u64 a m) (iAnd .u64 v m)) m = iAnd .u64 v m := by
  rw [and_bv, or_bv, andNot_bv, and_bv, bv_bn, bv_bn, bv_bn]
  congr 1
  apply BitVec.eq_of_getLsbD_eq
  intro i hi
  simp only [BitVec.getLsbD_and, BitVec.getLsbD_or, BitVec.getLsbD_not, hi, decide_true, Bool.true_and]
  cases (bv a).getLsbD i <;> cases (bv v).getLsbD i <;> cases (bv m).getLsbD i <;> rfl
theorem lay_same {a x m : Int} (ha : inU a) (h : iAnd .u64 x m = iAnd .u64 a m) : iOr .u64 (iAndNot .u64 a m) (iAnd .u64 x m) = a := by
  rw [h, or_bv, andNot_bv, and_bv, bv_bn, bv_bn]
  rw [show (bv a &&& ~~~ bv m) ||| (bv a &&& bv m) = bv a by
    apply BitVec.eq_of_getLsbD_eq
    intro i hi
    simp only [BitVec.getLsbD_and, BitVec.getLsbD_or, BitVec.getLsbD_not, hi, decide_true, Bool.true_and]
    cases (bv a).getLsbD i <;> cases (bv m).getLsbD i <;> rfl]
  exact bn_bv ha
theorem mip_and (m l d : Int) : iAnd .u64 (iAnd .u64 (iOr .u64 (iAnd .u64 m 546) (iAnd .u64 0 l)) (iAnd .u64 d 546)) (iAnd .u64 2 d) = iAnd .u64 m (iAnd .u64 2 d) := by
  simp only [and_bv, or_bv, bv_bn]
  congr 1
  have h0 : bv 0 = 0#64 := by decide
  have h1 : bv 2 &&& bv 546 = bv 2 := by decide
  rw [h0, BitVec.zero_and, BitVec.or_zero]
  apply BitVec.eq_of_getLsbD_eq
  intro i hi
  have h2 := congrArg (fun z => z.getLsbD i) h1
  simp only [BitVec.getLsbD_and] at h2 ⊢
  cases h3 : (bv 2).getLsbD i <;> cases h4 : (bv 546).getLsbD i <;> rw [h3, h4] at h2 <;> cases (bv m).getLsbD i <;> cases (bv d).getLsbD i <;> first | rfl | cases h2

theorem mst_in (t : Int) : inU (mst t) := by
  unfold mst
  cases iEq (iAnd .u64 (iShr .u64 (iAnd .u64 t 8264106) 11) 3) 2
  · exact inU_and _ _
  · exact inU_andNot _ _
theorem mst_and (t : Int) : iAnd .u64 (mst t) 8264106 = mst t := by
  unfold mst
  cases iEq (iAnd .u64 (iShr .u64 (iAnd .u64 t 8264106) 11) 3) 2
  · exact and2 _ _
  · show iAnd .u64 (iAndNot .u64 (iAnd .u64 t 8264106) 6144) 8264106 = iAndNot .u64 (iAnd .u64 t 8264106) 6144
    rw [mpp_v, and_bv, and_bv, bv_bn, BitVec.and_assoc, show bv 8257962 &&& bv 8264106 = bv 8257962 by decide]
theorem mst_mpp (t : Int) : iEq (iAnd .u64 (iShr .u64 (mst t) 11) 3) 2 = false := by
  unfold mst
  cases h : iEq (iAnd .u64 (iShr .u64 (iAnd .u64 t 8264106) 11) 3) 2
  · exact h
  · show iEq (iAnd .u64 (iShr .u64 (iAndNot .u64 (iAnd .u64 t 8264106) 6144) 11) 3) 2 = false
    rw [mpp_v, show (11 : Int) = ((11 : Nat) : Int) from rfl, shr_bv (inU_and _ _) 11 (by decide), and_bv, and_bv, bv_bn, bv_bn, BitVec.ushiftRight_and_distrib, BitVec.and_assoc, show bv 8257962 >>> 11 &&& bv 3 = 0#64 by decide, BitVec.and_zero]
    exact iEq_f.2 (by decide)
theorem mst_back {x t : Int} (h : iAnd .u64 x 8264106 = mst t) : mst x = mst t := by
  have h1 := mst_mpp t
  conv => lhs; unfold mst
  rw [h, h1]
  rfl

/-! ### Roots, moved -/
theorem bOf_root {a : Int} (ha : inU a) : bOf (root 0 a) = bOf (root 0 0) := by
  have hm : ∀ a, inU a → iLt (bMiddle (root 0 a)) (bCorner (root 0 a)) = true := by
    intro a ha
    have hr : ∀ a, (root 0 a).addr = a ∧ (root 0 a).e = 52 ∧ (root 0 a).b = 0 := fun a => by
      have : root 0 a = ⟨true, 65535, 262143, 0, 52, 0, 0, true, a⟩ := by unfold root; rw [show iEq 0 1 = false from iEq_f.2 (by decide)]; rfl
      rw [this]; exact ⟨rfl, rfl, rfl⟩
    unfold bMiddle bCorner
    rw [(hr a).1, (hr a).2.1, (hr a).2.2]
    unfold inU at ha
    rw [show (52 : Int) = ((52 : Nat) : Int) from rfl, iShr_n _ _ 52 (by decide), iCv_i (by omega) (by omega), iAnd_i_low _ 14 (by decide) (by decide)]
    rw [show iShl .i64 (iAnd .i64 (iSub .i64 (iShr .i64 0 11) 1) 7) 11 = 14336 by decide +kernel]
    exact iLt_t.2 (by omega)
  have he : ∀ a, (root 0 a) = ⟨true, 65535, 262143, 0, 52, 0, 0, true, a⟩ := fun a => by unfold root; rw [show iEq 0 1 = false from iEq_f.2 (by decide)]; rfl
  have hend : ∀ u m, bEnd (root 0 a) u m = bEnd (root 0 0) u m := by
    intro u m
    unfold bEnd bStep
    rw [hm a ha, hm 0 (by unfold inU; decide), he a, he 0]
    rfl
  have hT : bT (root 0 a) = bT (root 0 0) := by rw [he a, he 0]; rfl
  have hE : ∀ a, (root 0 a).e = 52 ∧ (root 0 a).b = 0 := fun a => by rw [he a]; exact ⟨rfl, rfl⟩
  have h66 : iLt (iAdd .i64 52 14) 64 = false := by decide +kernel
  unfold bOf
  rw [(hE a).1, (hE 0).1, (hE a).2, (hE 0).2, h66]
  simp only [cond_false]
  rw [hend, hend, hT]
  unfold bFin
  rw [(hE a).1, (hE 0).1]

theorem bMove_root {a b : Int} (ha : inU a) (hb : inU b) : bMove (root 0 a) b = root 0 b := by
  have he : ∀ a, (root 0 a) = ⟨true, 65535, 262143, 0, 52, 0, 0, true, a⟩ := fun a => by unfold root; rw [show iEq 0 1 = false from iEq_f.2 (by decide)]; rfl
  have hw : ({ root 0 a with addr := b } : Cap) = root 0 b := by rw [he a, he b]
  have hs : sealed (root 0 a) = false := by rw [he a]; unfold sealed; rw [bNot_eq, iEq_t.2 rfl]; rfl
  have hf : bFits (root 0 a) b = true := by
    unfold bFits
    rw [hw, bOf_root ha, bOf_root hb]
    unfold rngEq; simp
  unfold bMove
  rw [hs, hf, hw, bNot_eq]
  show keep (root 0 b) true = root 0 b
  rw [he b]; rfl

/-- A hart whose four capabilities with addresses of registers are roots. -/
def rooted (h : Hart) : Hart := { h with stcc := root 0 0, sepcc := root 0 0, mtcc := root 0 0, mepcc := root 0 0 }

theorem root_e (a : Int) : (root 0 a).e = 52 := by unfold root; rw [show iEq 0 1 = false from iEq_f.2 (by decide)]; rfl
theorem root_a (a : Int) : (root 0 a).addr = a := by unfold root; rw [show iEq 0 1 = false from iEq_f.2 (by decide)]; rfl
theorem in0 : inU 0 := by unfold inU; decide
theorem rooted_four (h : Hart) : fourOk (rooted h) := fourOk52 (root_e 0) (root_e 0) (root_e 0) (root_e 0)

theorem ofV_oth (h : Hart) (n : Int) : (bWrite h n 0).1 = (bWrite h n 0).1 := rfl

/-- Behind a write: writing what is read, and writing again, is nothing. -/
def BackOk (h : Hart) (n v : Int) : Prop := (bWrite h n v).1 = true → fourOk (bWrite h n v).2.1 ∧ bWrite (bWrite h n v).2.1 n (ofV (bWrite h n v).2.1 n) = (true, (bWrite h n v).2.1, ()) ∧ bWrite (bWrite h n v).2.1 n v = (true, (bWrite h n v).2.1, ())

theorem rv_256 (h : Hart) : ofV h 256 = iOr .u64 (iAnd .u64 h.mstatus 786722) 8589934592 := by kernel_rfl
theorem rv_260 (h : Hart) : ofV h 260 = iAnd .u64 h.mie (delegated h) := by kernel_rfl
theorem rv_261 (h : Hart) : ofV h 261 = h.stcc.addr := by kernel_rfl
theorem rv_262 (h : Hart) : ofV h 262 = iAnd .u64 h.scounteren 7 := by kernel_rfl
theorem rv_320 (h : Hart) : ofV h 320 = iAnd .u64 h.sscratch 18446744073709551615 := by kernel_rfl
theorem rv_321 (h : Hart) : ofV h 321 = h.sepcc.addr := by kernel_rfl
theorem rv_322 (h : Hart) : ofV h 322 = iAnd .u64 h.scause 18446744073709551615 := by kernel_rfl
theorem rv_323 (h : Hart) : ofV h 323 = iAnd .u64 h.stval 18446744073709551615 := by kernel_rfl
theorem rv_324 (h : Hart) : ofV h 324 = iAnd .u64 (iOr .u64 (iAnd .u64 h.mip 546) (iAnd .u64 0 2730)) (iAnd .u64 h.mideleg 546) := by kernel_rfl
theorem rv_384 (h : Hart) : ofV h 384 = h.satp := by kernel_rfl
theorem rv_768 (h : Hart) : ofV h 768 = iOr .u64 (iOr .u64 (iAnd .u64 h.mstatus 8264106) 8589934592) 34359738368 := by kernel_rfl
theorem rv_770 (h : Hart) : ofV h 770 = iAnd .u64 h.medeleg 402699263 := by kernel_rfl
theorem rv_771 (h : Hart) : ofV h 771 = iAnd .u64 h.mideleg 546 := by kernel_rfl
theorem rv_772 (h : Hart) : ofV h 772 = iAnd .u64 h.mie 2730 := by kernel_rfl
theorem rv_773 (h : Hart) : ofV h 773 = h.mtcc.addr := by kernel_rfl
theorem rv_774 (h : Hart) : ofV h 774 = iAnd .u64 h.mcounteren 7 := by kernel_rfl
theorem rv_832 (h : Hart) : ofV h 832 = iAnd .u64 h.mscratch 18446744073709551615 := by kernel_rfl
theorem rv_833 (h : Hart) : ofV h 833 = h.mepcc.addr := by kernel_rfl
theorem rv_834 (h : Hart) : ofV h 834 = iAnd .u64 h.mcause 18446744073709551615 := by kernel_rfl
theorem rv_835 (h : Hart) : ofV h 835 = iAnd .u64 h.mtval 18446744073709551615 := by kernel_rfl
theorem rv_836 (h : Hart) : ofV h 836 = iOr .u64 (iAnd .u64 h.mip 546) (iAnd .u64 0 2730) := by kernel_rfl
theorem rv_2816 (h : Hart) : ofV h 2816 = iAnd .u64 h.cycle 18446744073709551615 := by kernel_rfl
theorem rv_2818 (h : Hart) : ofV h 2818 = iAnd .u64 h.instret 18446744073709551615 := by kernel_rfl

/-- One number written: what it becomes. -/
theorem back_of {h : Hart} {n v : Int} {α : Type} (F : α → Hart) (w : Hart → Int → α) (hw : ∀ x t, bWrite (F x) n t = (true, F (w (F x) t), ())) (h0 : ∀ t, bWrite h n t = (true, F (w h t), ())) (h4 : ∀ x, fourOk (F (w h x)))
    (h1 : w (F (w h v)) (ofV (F (w h v)) n) = w h v) (h2 : w (F (w h v)) v = w h v) : BackOk h n v := by
  intro _
  rw [h0 v]
  refine ⟨h4 v, ?_, ?_⟩
  · show bWrite (F (w h v)) n (ofV (F (w h v)) n) = _
    rw [hw, h1]
  · show bWrite (F (w h v)) n v = _
    rw [hw, h2]

theorem back_eq (h : Hart) (n v : Int) (hv : inU v) : BackOk (rooted h) n v := by
  have r4 := rooted_four h
  by_cases e256 : n = 256
  · subst e256
    refine back_of (h := rooted h) (fun z => { rooted h with mstatus := z }) (fun h t => iOr .u64 (iAndNot .u64 h.mstatus 786722) (iAnd .u64 t 786722)) (fun x t => bw_256 _ _) (fun t => bw_256 _ _) (fun _ => r4) ?_ ?_
    · show iOr .u64 (iAndNot .u64 (iOr .u64 (iAndNot .u64 (rooted h).mstatus 786722) (iAnd .u64 v 786722)) 786722) (iAnd .u64 (ofV { rooted h with mstatus := iOr .u64 (iAndNot .u64 (rooted h).mstatus 786722) (iAnd .u64 v 786722) } 256) 786722) = _
      rw [rv_256]
      exact lay_same (inU_or _ _) (by rw [or_and_out _ _ _ (by decide)]; exact and2 _ _)
    · exact lay_same (inU_or _ _) (lay_and _ _ _).symm
  by_cases e260 : n = 260
  · subst e260
    refine back_of (h := rooted h) (fun z => { rooted h with mie := z }) (fun h t => iOr .u64 (iAndNot .u64 h.mie (delegated h)) (iAnd .u64 t (delegated h))) (fun x t => bw_260 _ _) (fun t => bw_260 _ _) (fun _ => r4) ?_ ?_
    · show iOr .u64 (iAndNot .u64 (iOr .u64 (iAndNot .u64 (rooted h).mie (delegated h)) (iAnd .u64 v (delegated h))) (delegated h)) (iAnd .u64 (ofV { rooted h with mie := iOr .u64 (iAndNot .u64 (rooted h).mie (delegated h)) (iAnd .u64 v (delegated h)) } 260) (delegated h)) = _
      rw [rv_260]
      exact lay_same (inU_or _ _) (and2 _ _)
    · exact lay_same (inU_or _ _) (lay_and _ _ _).symm
  by_cases e261 : n = 261
  · subst e261
    have mv : ∀ t, bMove (rooted h).stcc (iAndNot .u64 t 2) = root 0 (iAndNot .u64 t 2) := fun t => bMove_root in0 (inU_andNot _ _)
    have e52 : ∀ t, (bMove (rooted h).stcc (iAndNot .u64 t 2)).e = 52 := fun t => by rw [mv]; exact root_e _
    refine back_of (h := rooted h) (fun z => { rooted h with stcc := z }) (fun h t => bMove h.stcc (iAndNot .u64 t 2)) (fun x t => bw_261 _ _) (fun t => bw_261 _ _) (fun x => fourOk52 (e52 x) (root_e 0) (root_e 0) (root_e 0)) ?_ ?_
    · show bMove (bMove (rooted h).stcc (iAndNot .u64 v 2)) (iAndNot .u64 (ofV { rooted h with stcc := bMove (rooted h).stcc (iAndNot .u64 v 2) } 261) 2) = bMove (rooted h).stcc (iAndNot .u64 v 2)
      rw [rv_261]
      show bMove (bMove (rooted h).stcc (iAndNot .u64 v 2)) (iAndNot .u64 (bMove (rooted h).stcc (iAndNot .u64 v 2)).addr 2) = bMove (rooted h).stcc (iAndNot .u64 v 2)
      rw [mv, root_a, andNot2]
      exact bMove_root (inU_andNot _ _) (inU_andNot _ _)
    · show bMove (bMove (rooted h).stcc (iAndNot .u64 v 2)) (iAndNot .u64 v 2) = bMove (rooted h).stcc (iAndNot .u64 v 2)
      rw [mv]
      exact bMove_root (inU_andNot _ _) (inU_andNot _ _)
  by_cases e262 : n = 262
  · subst e262
    refine back_of (h := rooted h) (fun z => { rooted h with scounteren := z }) (fun h t => iAnd .u64 t 7) (fun x t => bw_262 _ _) (fun t => bw_262 _ _) (fun _ => r4) ?_ ?_
    · show iAnd .u64 (ofV { rooted h with scounteren := iAnd .u64 v 7 } 262) 7 = iAnd .u64 v 7
      rw [rv_262]
      show iAnd .u64 (iAnd .u64 (iAnd .u64 v 7) 7) 7 = iAnd .u64 v 7
      rw [and2, and2]
    · rfl
  by_cases e320 : n = 320
  · subst e320
    refine back_of (h := rooted h) (fun z => { rooted h with sscratch := z }) (fun h t => iAnd .u64 t 18446744073709551615) (fun x t => bw_320 _ _) (fun t => bw_320 _ _) (fun _ => r4) ?_ ?_
    · show iAnd .u64 (ofV { rooted h with sscratch := iAnd .u64 v 18446744073709551615 } 320) 18446744073709551615 = iAnd .u64 v 18446744073709551615
      rw [rv_320]
      show iAnd .u64 (iAnd .u64 (iAnd .u64 v 18446744073709551615) 18446744073709551615) 18446744073709551615 = iAnd .u64 v 18446744073709551615
      rw [and2, and2]
    · rfl
  by_cases e321 : n = 321
  · subst e321
    have mv : ∀ t, bMove (rooted h).sepcc (iAndNot .u64 t 1) = root 0 (iAndNot .u64 t 1) := fun t => bMove_root in0 (inU_andNot _ _)
    have e52 : ∀ t, (bMove (rooted h).sepcc (iAndNot .u64 t 1)).e = 52 := fun t => by rw [mv]; exact root_e _
    refine back_of (h := rooted h) (fun z => { rooted h with sepcc := z }) (fun h t => bMove h.sepcc (iAndNot .u64 t 1)) (fun x t => bw_321 _ _) (fun t => bw_321 _ _) (fun x => fourOk52 (root_e 0) (e52 x) (root_e 0) (root_e 0)) ?_ ?_
    · show bMove (bMove (rooted h).sepcc (iAndNot .u64 v 1)) (iAndNot .u64 (ofV { rooted h with sepcc := bMove (rooted h).sepcc (iAndNot .u64 v 1) } 321) 1) = bMove (rooted h).sepcc (iAndNot .u64 v 1)
      rw [rv_321]
      show bMove (bMove (rooted h).sepcc (iAndNot .u64 v 1)) (iAndNot .u64 (bMove (rooted h).sepcc (iAndNot .u64 v 1)).addr 1) = bMove (rooted h).sepcc (iAndNot .u64 v 1)
      rw [mv, root_a, andNot2]
      exact bMove_root (inU_andNot _ _) (inU_andNot _ _)
    · show bMove (bMove (rooted h).sepcc (iAndNot .u64 v 1)) (iAndNot .u64 v 1) = bMove (rooted h).sepcc (iAndNot .u64 v 1)
      rw [mv]
      exact bMove_root (inU_andNot _ _) (inU_andNot _ _)
  by_cases e322 : n = 322
  · subst e322
    refine back_of (h := rooted h) (fun z => { rooted h with scause := z }) (fun h t => iAnd .u64 t 18446744073709551615) (fun x t => bw_322 _ _) (fun t => bw_322 _ _) (fun _ => r4) ?_ ?_
    · show iAnd .u64 (ofV { rooted h with scause := iAnd .u64 v 18446744073709551615 } 322) 18446744073709551615 = iAnd .u64 v 18446744073709551615
      rw [rv_322]
      show iAnd .u64 (iAnd .u64 (iAnd .u64 v 18446744073709551615) 18446744073709551615) 18446744073709551615 = iAnd .u64 v 18446744073709551615
      rw [and2, and2]
    · rfl
  by_cases e323 : n = 323
  · subst e323
    refine back_of (h := rooted h) (fun z => { rooted h with stval := z }) (fun h t => iAnd .u64 t 18446744073709551615) (fun x t => bw_323 _ _) (fun t => bw_323 _ _) (fun _ => r4) ?_ ?_
    · show iAnd .u64 (ofV { rooted h with stval := iAnd .u64 v 18446744073709551615 } 323) 18446744073709551615 = iAnd .u64 v 18446744073709551615
      rw [rv_323]
      show iAnd .u64 (iAnd .u64 (iAnd .u64 v 18446744073709551615) 18446744073709551615) 18446744073709551615 = iAnd .u64 v 18446744073709551615
      rw [and2, and2]
    · rfl
  by_cases e324 : n = 324
  · subst e324
    refine back_of (h := rooted h) (fun z => { rooted h with mip := z }) (fun h t => iOr .u64 (iAndNot .u64 h.mip (iAnd .u64 2 h.mideleg)) (iAnd .u64 t (iAnd .u64 2 h.mideleg))) (fun x t => bw_324 _ _) (fun t => bw_324 _ _) (fun _ => r4) ?_ ?_
    · show iOr .u64 (iAndNot .u64 (iOr .u64 (iAndNot .u64 h.mip (iAnd .u64 2 h.mideleg)) (iAnd .u64 v (iAnd .u64 2 h.mideleg))) (iAnd .u64 2 h.mideleg)) (iAnd .u64 (ofV { rooted h with mip := iOr .u64 (iAndNot .u64 h.mip (iAnd .u64 2 h.mideleg)) (iAnd .u64 v (iAnd .u64 2 h.mideleg)) } 324) (iAnd .u64 2 h.mideleg)) = _
      rw [rv_324]
      exact lay_same (inU_or _ _) (mip_and _ _ _)
    · exact lay_same (inU_or _ _) (lay_and _ _ _).symm
  by_cases e384 : n = 384
  · subst e384
    intro _
    rw [bw_384]
    cases c1 : iEq (iShr .u64 v 60) 0
    · cases c2 : iEq (iShr .u64 v 60) 8
      · refine ⟨r4, ?_, ?_⟩
        · show bWrite (rooted h) 384 (ofV (rooted h) 384) = (true, rooted h, ())
          rw [bw_384, rv_384]
          cases iEq (iShr .u64 (rooted h).satp 60) 0 <;> cases iEq (iShr .u64 (rooted h).satp 60) 8 <;> rfl
        · show bWrite (rooted h) 384 v = (true, rooted h, ())
          rw [bw_384, c1, c2]; rfl
      · refine ⟨r4, ?_, ?_⟩
        · show bWrite { rooted h with satp := v } 384 (ofV { rooted h with satp := v } 384) = (true, { rooted h with satp := v }, ())
          rw [rv_384, bw_384]
          simp only [c1, c2, cond_true, cond_false]
        · show bWrite { rooted h with satp := v } 384 v = (true, { rooted h with satp := v }, ())
          rw [bw_384, c1, c2]; rfl
    · refine ⟨r4, ?_, ?_⟩
      · show bWrite { rooted h with satp := v } 384 (ofV { rooted h with satp := v } 384) = (true, { rooted h with satp := v }, ())
        rw [rv_384, bw_384]
        simp only [c1, cond_true]
      · show bWrite { rooted h with satp := v } 384 v = (true, { rooted h with satp := v }, ())
        rw [bw_384, c1]; rfl
  by_cases e768 : n = 768
  · subst e768
    refine back_of (h := rooted h) (fun z => { rooted h with mstatus := z }) (fun h t => mst t) (fun x t => bw_768 _ _) (fun t => bw_768 _ _) (fun _ => r4) ?_ ?_
    · show mst (ofV { rooted h with mstatus := mst v } 768) = mst v
      rw [rv_768]
      refine mst_back ?_
      rw [or_and_out _ _ _ (by decide), or_and_out _ _ _ (by decide), and2]
      exact mst_and v
    · rfl
  by_cases e769 : n = 769
  · subst e769
    intro _; rw [bw_769]; exact ⟨r4, bw_769 _ _, bw_769 _ _⟩
  by_cases e770 : n = 770
  · subst e770
    refine back_of (h := rooted h) (fun z => { rooted h with medeleg := z }) (fun h t => iAnd .u64 t 402699263) (fun x t => bw_770 _ _) (fun t => bw_770 _ _) (fun _ => r4) ?_ ?_
    · show iAnd .u64 (ofV { rooted h with medeleg := iAnd .u64 v 402699263 } 770) 402699263 = iAnd .u64 v 402699263
      rw [rv_770]
      show iAnd .u64 (iAnd .u64 (iAnd .u64 v 402699263) 402699263) 402699263 = iAnd .u64 v 402699263
      rw [and2, and2]
    · rfl
  by_cases e771 : n = 771
  · subst e771
    refine back_of (h := rooted h) (fun z => { rooted h with mideleg := z }) (fun h t => iAnd .u64 t 546) (fun x t => bw_771 _ _) (fun t => bw_771 _ _) (fun _ => r4) ?_ ?_
    · show iAnd .u64 (ofV { rooted h with mideleg := iAnd .u64 v 546 } 771) 546 = iAnd .u64 v 546
      rw [rv_771]
      show iAnd .u64 (iAnd .u64 (iAnd .u64 v 546) 546) 546 = iAnd .u64 v 546
      rw [and2, and2]
    · rfl
  by_cases e772 : n = 772
  · subst e772
    refine back_of (h := rooted h) (fun z => { rooted h with mie := z }) (fun h t => iAnd .u64 t 2730) (fun x t => bw_772 _ _) (fun t => bw_772 _ _) (fun _ => r4) ?_ ?_
    · show iAnd .u64 (ofV { rooted h with mie := iAnd .u64 v 2730 } 772) 2730 = iAnd .u64 v 2730
      rw [rv_772]
      show iAnd .u64 (iAnd .u64 (iAnd .u64 v 2730) 2730) 2730 = iAnd .u64 v 2730
      rw [and2, and2]
    · rfl
  by_cases e773 : n = 773
  · subst e773
    have mv : ∀ t, bMove (rooted h).mtcc (iAndNot .u64 t 2) = root 0 (iAndNot .u64 t 2) := fun t => bMove_root in0 (inU_andNot _ _)
    have e52 : ∀ t, (bMove (rooted h).mtcc (iAndNot .u64 t 2)).e = 52 := fun t => by rw [mv]; exact root_e _
    refine back_of (h := rooted h) (fun z => { rooted h with mtcc := z }) (fun h t => bMove h.mtcc (iAndNot .u64 t 2)) (fun x t => bw_773 _ _) (fun t => bw_773 _ _) (fun x => fourOk52 (root_e 0) (root_e 0) (e52 x) (root_e 0)) ?_ ?_
    · show bMove (bMove (rooted h).mtcc (iAndNot .u64 v 2)) (iAndNot .u64 (ofV { rooted h with mtcc := bMove (rooted h).mtcc (iAndNot .u64 v 2) } 773) 2) = bMove (rooted h).mtcc (iAndNot .u64 v 2)
      rw [rv_773]
      show bMove (bMove (rooted h).mtcc (iAndNot .u64 v 2)) (iAndNot .u64 (bMove (rooted h).mtcc (iAndNot .u64 v 2)).addr 2) = bMove (rooted h).mtcc (iAndNot .u64 v 2)
      rw [mv, root_a, andNot2]
      exact bMove_root (inU_andNot _ _) (inU_andNot _ _)
    · show bMove (bMove (rooted h).mtcc (iAndNot .u64 v 2)) (iAndNot .u64 v 2) = bMove (rooted h).mtcc (iAndNot .u64 v 2)
      rw [mv]
      exact bMove_root (inU_andNot _ _) (inU_andNot _ _)
  by_cases e774 : n = 774
  · subst e774
    refine back_of (h := rooted h) (fun z => { rooted h with mcounteren := z }) (fun h t => iAnd .u64 t 7) (fun x t => bw_774 _ _) (fun t => bw_774 _ _) (fun _ => r4) ?_ ?_
    · show iAnd .u64 (ofV { rooted h with mcounteren := iAnd .u64 v 7 } 774) 7 = iAnd .u64 v 7
      rw [rv_774]
      show iAnd .u64 (iAnd .u64 (iAnd .u64 v 7) 7) 7 = iAnd .u64 v 7
      rw [and2, and2]
    · rfl
  by_cases e832 : n = 832
  · subst e832
    refine back_of (h := rooted h) (fun z => { rooted h with mscratch := z }) (fun h t => iAnd .u64 t 18446744073709551615) (fun x t => bw_832 _ _) (fun t => bw_832 _ _) (fun _ => r4) ?_ ?_
    · show iAnd .u64 (ofV { rooted h with mscratch := iAnd .u64 v 18446744073709551615 } 832) 18446744073709551615 = iAnd .u64 v 18446744073709551615
      rw [rv_832]
      show iAnd .u64 (iAnd .u64 (iAnd .u64 v 18446744073709551615) 18446744073709551615) 18446744073709551615 = iAnd .u64 v 18446744073709551615
      rw [and2, and2]
    · rfl
  by_cases e833 : n = 833
  · subst e833
    have mv : ∀ t, bMove (rooted h).mepcc (iAndNot .u64 t 1) = root 0 (iAndNot .u64 t 1) := fun t => bMove_root in0 (inU_andNot _ _)
    have e52 : ∀ t, (bMove (rooted h).mepcc (iAndNot .u64 t 1)).e = 52 := fun t => by rw [mv]; exact root_e _
    refine back_of (h := rooted h) (fun z => { rooted h with mepcc := z }) (fun h t => bMove h.mepcc (iAndNot .u64 t 1)) (fun x t => bw_833 _ _) (fun t => bw_833 _ _) (fun x => fourOk52 (root_e 0) (root_e 0) (root_e 0) (e52 x)) ?_ ?_
    · show bMove (bMove (rooted h).mepcc (iAndNot .u64 v 1)) (iAndNot .u64 (ofV { rooted h with mepcc := bMove (rooted h).mepcc (iAndNot .u64 v 1) } 833) 1) = bMove (rooted h).mepcc (iAndNot .u64 v 1)
      rw [rv_833]
      show bMove (bMove (rooted h).mepcc (iAndNot .u64 v 1)) (iAndNot .u64 (bMove (rooted h).mepcc (iAndNot .u64 v 1)).addr 1) = bMove (rooted h).mepcc (iAndNot .u64 v 1)
      rw [mv, root_a, andNot2]
      exact bMove_root (inU_andNot _ _) (inU_andNot _ _)
    · show bMove (bMove (rooted h).mepcc (iAndNot .u64 v 1)) (iAndNot .u64 v 1) = bMove (rooted h).mepcc (iAndNot .u64 v 1)
      rw [mv]
      exact bMove_root (inU_andNot _ _) (inU_andNot _ _)
  by_cases e834 : n = 834
  · subst e834
    refine back_of (h := rooted h) (fun z => { rooted h with mcause := z }) (fun h t => iAnd .u64 t 18446744073709551615) (fun x t => bw_834 _ _) (fun t => bw_834 _ _) (fun _ => r4) ?_ ?_
    · show iAnd .u64 (ofV { rooted h with mcause := iAnd .u64 v 18446744073709551615 } 834) 18446744073709551615 = iAnd .u64 v 18446744073709551615
      rw [rv_834]
      show iAnd .u64 (iAnd .u64 (iAnd .u64 v 18446744073709551615) 18446744073709551615) 18446744073709551615 = iAnd .u64 v 18446744073709551615
      rw [and2, and2]
    · rfl
  by_cases e835 : n = 835
  · subst e835
    refine back_of (h := rooted h) (fun z => { rooted h with mtval := z }) (fun h t => iAnd .u64 t 18446744073709551615) (fun x t => bw_835 _ _) (fun t => bw_835 _ _) (fun _ => r4) ?_ ?_
    · show iAnd .u64 (ofV { rooted h with mtval := iAnd .u64 v 18446744073709551615 } 835) 18446744073709551615 = iAnd .u64 v 18446744073709551615
      rw [rv_835]
      show iAnd .u64 (iAnd .u64 (iAnd .u64 v 18446744073709551615) 18446744073709551615) 18446744073709551615 = iAnd .u64 v 18446744073709551615
      rw [and2, and2]
    · rfl
  by_cases e836 : n = 836
  · subst e836
    refine back_of (h := rooted h) (fun z => { rooted h with mip := z }) (fun h t => iAnd .u64 t 546) (fun x t => bw_836 _ _) (fun t => bw_836 _ _) (fun _ => r4) ?_ ?_
    · show iAnd .u64 (ofV { rooted h with mip := iAnd .u64 v 546 } 836) 546 = iAnd .u64 v 546
      rw [rv_836]
      show iAnd .u64 (iOr .u64 (iAnd .u64 (iAnd .u64 v 546) 546) (iAnd .u64 0 2730)) 546 = iAnd .u64 v 546
      rw [show iAnd .u64 0 2730 = 0 by decide +kernel, or_and_out _ _ _ (by decide), and2, and2]
    · rfl
  by_cases e2816 : n = 2816
  · subst e2816
    refine back_of (h := rooted h) (fun z => { rooted h with cycle := z }) (fun h t => iAnd .u64 t 18446744073709551615) (fun x t => bw_2816 _ _) (fun t => bw_2816 _ _) (fun _ => r4) ?_ ?_
    · show iAnd .u64 (ofV { rooted h with cycle := iAnd .u64 v 18446744073709551615 } 2816) 18446744073709551615 = iAnd .u64 v 18446744073709551615
      rw [rv_2816]
      show iAnd .u64 (iAnd .u64 (iAnd .u64 v 18446744073709551615) 18446744073709551615) 18446744073709551615 = iAnd .u64 v 18446744073709551615
      rw [and2, and2]
    · rfl
  by_cases e3072 : n = 3072
  · subst e3072
    intro hd; rw [bw_3072] at hd; cases hd
  by_cases e2818 : n = 2818
  · subst e2818
    refine back_of (h := rooted h) (fun z => { rooted h with instret := z }) (fun h t => iAnd .u64 t 18446744073709551615) (fun x t => bw_2818 _ _) (fun t => bw_2818 _ _) (fun _ => r4) ?_ ?_
    · show iAnd .u64 (ofV { rooted h with instret := iAnd .u64 v 18446744073709551615 } 2818) 18446744073709551615 = iAnd .u64 v 18446744073709551615
      rw [rv_2818]
      show iAnd .u64 (iAnd .u64 (iAnd .u64 v 18446744073709551615) 18446744073709551615) 18446744073709551615 = iAnd .u64 v 18446744073709551615
      rw [and2, and2]
    · rfl
  by_cases e3074 : n = 3074
  · subst e3074
    intro hd; rw [bw_3074] at hd; cases hd
  by_cases e3073 : n = 3073
  · subst e3073
    intro hd; rw [bw_3073] at hd; cases hd
  have ho : ∀ t, bWrite (rooted h) n t = last n (bif readOnly n then no_ (rooted h) else (true, rooted h, ())) (no_ (rooted h)) := fun t => bw_oth (rooted h) n t e256 e260 e261 e262 e320 e321 e322 e323 e324 e384 e768 e769 e770 e771 e772 e773 e774 e832 e833 e834 e835 e836 e2816 e3072 e2818 e3074 e3073
  intro hd
  rw [ho v] at hd
  have hx : last n (bif readOnly n then no_ (rooted h) else ((true, rooted h, ()) : Wr)) (no_ (rooted h)) = (true, rooted h, ()) := by
    rcases last_or n (bif readOnly n then no_ (rooted h) else ((true, rooted h, ()) : Wr)) (no_ (rooted h)) with e | e
    · rw [e] at hd ⊢
      cases hr : readOnly n
      · rfl
      · rw [hr] at hd; cases hd
    · rw [e] at hd; cases hd
  rw [ho v, hx]
  refine ⟨r4, ?_, ?_⟩
  · exact (ho _).trans hx
  · exact (ho _).trans hx

noncomputable def b1 (h : Hart) (n v : Int) : Wr := bWrite (rooted h) n v
noncomputable def b2 (h : Hart) (n v : Int) : Wr := bWrite (b1 h n v).2.1 n (ofV (b1 h n v).2.1 n)
noncomputable def b3 (h : Hart) (n v : Int) : Wr := bWrite (b1 h n v).2.1 n v
noncomputable def gBack (h : Hart) (n v : Int) : T Bool :=
  .br (bNot (hartRight (rooted h))) (.ret true) <| .need (fourOk (rooted h)) <| .br (bNot (b1 h n v).1) (.ret true) <| .need (fourOk (b1 h n v).2.1) <|
  .br (bNot (b2 h n v).1) (.ret false) <| .br (bNot (iEq (ofV (b2 h n v).2.1 n) (ofV (b1 h n v).2.1 n))) (.ret false) <| .need (fourOk (b1 h n v).2.1) <|
  .br (b3 h n v).1 (.need ok32 <| .br (hEq (b3 h n v).2.1 (b1 h n v).2.1) (.ret true) (.ret false)) (.ret false)

theorem f4_t (h : Hart) (n v : Int) : runT (mkCtx csrRows psT ssL 0) Try.f4 [.v .hart, .v i64, .v u64] (.one .bo) (h, n, v, ()) = (gBack h n v).mp fun r => (r, ()) := by kernel_rfl

theorem gBack_h (h : Hart) (n : Int) {v : Int} (hv : inU v) : (gBack h n v).holds fun r => r = true := by
  have no : ∀ {b : Bool} {P : Prop}, b = false → b = true → P := fun h h' => by rw [h] at h'; cases h'
  have no' : ∀ {b : Bool} {P : Prop}, b = true → b = false → P := fun h h' => by rw [h] at h'; cases h'
  refine ⟨fun _ => rfl, fun _ => ⟨rooted_four h, fun _ => rfl, fun hd => ?_⟩⟩
  rw [bNot_f] at hd
  obtain ⟨h4, h2, h3⟩ := back_eq h n v hv hd
  have h2 : b2 h n v = (true, (b1 h n v).2.1, ()) := h2
  have h3 : b3 h n v = (true, (b1 h n v).2.1, ()) := h3
  rw [h2, h3]
  refine ⟨h4, no (by rw [bNot_eq]; rfl), fun _ => ⟨no (by rw [bNot_eq, iEq_t.2 rfl]; rfl), fun _ => ⟨h4, fun _ => ⟨ok32_t, fun _ => rfl, no' (hEq_self _)⟩, no' rfl⟩⟩⟩

theorem f4_h (h : Hart) (n : Int) {v : Int} (hv : inU v) : (runT (mkCtx csrRows psT ssL 0) Try.f4 [.v .hart, .v i64, .v u64] (.one .bo) (h, n, v, ())).holds fun r => r.1 = true := by
  rw [f4_t]
  exact T.mp_holds (gBack_h h n hv)

end Go.Mir

namespace Go.Mir
open Go.Proofs

set_option maxRecDepth 100000

def withPriv (h : Hart) (p : Int) : Hart := { h with priv := p }

theorem bRead_is (h : Hart) (n t l : Int) : (bRead h n t l).2.1 = there n := by
  have ht : tab n true false = there n := by rw [tab_there]; cases there n <;> rfl
  rw [← ht]
  unfold bRead tab two last tl
  cases iEq n 256
  rotate_left
  · rfl
  cases iEq n 260
  rotate_left
  · rfl
  cases iEq n 261
  rotate_left
  · rfl
  cases iEq n 262
  rotate_left
  · rfl
  cases iEq n 320
  rotate_left
  · rfl
  cases iEq n 321
  rotate_left
  · rfl
  cases iEq n 322
  rotate_left
  · rfl
  cases iEq n 323
  rotate_left
  · rfl
  cases iEq n 324
  rotate_left
  · rfl
  cases iEq n 384
  rotate_left
  · rfl
  cases iEq n 768
  rotate_left
  · rfl
  cases iEq n 769
  rotate_left
  · rfl
  cases iEq n 770
  rotate_left
  · rfl
  cases iEq n 771
  rotate_left
  · rfl
  cases iEq n 772
  rotate_left
  · rfl
  cases iEq n 773
  rotate_left
  · rfl
  cases iEq n 774
  rotate_left
  · rfl
  cases iEq n 832
  rotate_left
  · rfl
  cases iEq n 833
  rotate_left
  · rfl
  cases iEq n 834
  rotate_left
  · rfl
  cases iEq n 835
  rotate_left
  · rfl
  cases iEq n 836
  rotate_left
  · rfl
  cases iEq n 2816 <;> cases iEq n 3072 <;> cases iEq n 2818 <;> cases iEq n 3074 <;> cases iEq n 3073 <;> first | rfl | skip
  cases iLe 928 n <;> cases iLe n 1007 <;> cases iLe 3857 n <;> cases bNot (iLe n 3860) <;> rfl

theorem more_eq (h : Hart) (n : Int) (w : Bool) (p q : Int) (hpq : (p = 0 ∧ q = 1) ∨ (p = 1 ∧ q = 3)) (hl : (bMay (withPriv h p) n w).is = false) :
    (bMay (withPriv h q) n w).is = false ∧ (bMay (withPriv h p) n false).is = false ∧ (bRead (withPriv h q) n 0 0).2.1 = true := by
  rw [bRead_is]
  unfold bMay at hl ⊢
  rw [tab_there] at hl ⊢
  rw [tab_there]
  cases ht : there n with
  | false => rw [ht] at hl; cases hl
  | true =>
    rw [ht] at hl
    simp only [cond_true] at hl ⊢
    have hb := there_bounds ht
    obtain ⟨l1, _⟩ := lvl_eq (n := n) (by omega) (by omega)
    have h384 : iEq n 384 = true → lvl n = 1 := fun e => by rw [iEq_t] at e; subst e; rw [l1]; decide
    have lb : 0 ≤ lvl n ∧ lvl n < 4 := by rw [l1]; omega
    unfold mayT mayRest mayCnt counted withPriv at hl ⊢
    simp only at hl ⊢
    have hend : ∀ r, mayEnd { h with priv := r } n = mayEnd h n := fun r => rfl
    simp only [hend] at hl ⊢
    generalize iEq (iAnd .u64 h.mcounteren (cBit n)) 0 = A at *
    generalize iEq (iAnd .u64 h.scounteren (cBit n)) 0 = B at *
    generalize bNot (iEq (iAnd .u64 h.mstatus 1048576) 0) = X at *
    generalize mayEnd h n = E at *
    generalize readOnly n = R at *
    generalize iLe 3072 n = c1 at *
    generalize iLe n 3074 = c2 at *
    have p1 : iLt p (lvl n) = false := by
      cases hp : iLt p (lvl n) with
      | false => rfl
      | true => rw [hp] at hl; cases hl
    have q1 : iLt q (lvl n) = false := by rw [iLt_f] at *; omega
    rw [p1] at hl ⊢
    rw [q1]
    rcases hpq with ⟨rfl, rfl⟩ | ⟨rfl, rfl⟩
    · have n384 : iEq n 384 = false := by
        cases e : iEq n 384 with
        | false => rfl
        | true => have := h384 e; rw [iLt_f] at p1; omega
      rw [n384] at hl ⊢
      rw [show iLt 0 3 = true from iLt_t.2 (by decide), show iEq 0 0 = true from iEq_t.2 rfl] at hl
      rw [show iLt 0 3 = true from iLt_t.2 (by decide), show iEq 0 0 = true from iEq_t.2 rfl, show iLt 1 3 = true from iLt_t.2 (by decide), show iEq 1 0 = false from iEq_f.2 (by decide)]
      cases w <;> cases R <;> cases c1 <;> cases c2 <;> cases A <;> cases B <;> simp_all [ill]
    · rw [show iLt 1 3 = true from iLt_t.2 (by decide), show iEq 1 0 = false from iEq_f.2 (by decide), show iEq 1 1 = true from iEq_t.2 rfl] at hl
      rw [show iLt 1 3 = true from iLt_t.2 (by decide), show iEq 1 0 = false from iEq_f.2 (by decide), show iEq 1 1 = true from iEq_t.2 rfl, show iLt 3 3 = false from iLt_f.2 (by decide), show iEq 3 0 = false from iEq_f.2 (by decide), show iEq 3 1 = false from iEq_f.2 (by decide)]
      generalize iEq n 384 = D at hl ⊢
      cases D <;> cases w <;> cases R <;> cases c1 <;> cases c2 <;> cases A <;> cases X <;> simp_all [ill]

def moreTwo (h : Hart) (n : Int) (w : Bool) : T Bool :=
  .br (bNot (bMay (withPriv h 1) n w).is) (.br (bMay (withPriv h 3) n w).is (.ret false) (.br (bMay (withPriv h 1) n false).is (.ret false) (.br (bNot (bRead (withPriv h 3) n 0 0).2.1) (.ret false) (.ret true)))) (.ret true)
def gMore (h : Hart) (n : Int) (w : Bool) : T Bool :=
  .br (bNot (hartRight h)) (.ret true) <|
  .br (bNot (bMay (withPriv h 0) n w).is) (.br (bMay (withPriv h 1) n w).is (.ret false) (.br (bMay (withPriv h 0) n false).is (.ret false) (.br (bNot (bRead (withPriv h 1) n 0 0).2.1) (.ret false) (moreTwo h n w)))) (moreTwo h n w)

theorem f6_t (h : Hart) (n : Int) (w : Bool) : runT (mkCtx csrRows psT ssL 4) Try.f6 [.v .hart, .v i64, .v .bo] (.one .bo) (h, n, w, ()) = (gMore h n w).mp fun r => (r, ()) := by kernel_rfl

theorem gMore_h (h : Hart) (n : Int) (w : Bool) : (gMore h n w).holds fun r => r = true := by
  have no : ∀ {b : Bool} {P : Prop}, b = false → b = true → P := fun h h' => by rw [h] at h'; cases h'
  have two : (moreTwo h n w).holds fun r => r = true := by
    refine ⟨fun h0 => ?_, fun _ => rfl⟩
    rw [bNot_t] at h0
    obtain ⟨a, b, c⟩ := more_eq h n w 1 3 (.inr ⟨rfl, rfl⟩) h0
    exact ⟨no a, fun _ => ⟨no b, fun _ => ⟨no (by rw [bNot_eq, c]; rfl), fun _ => rfl⟩⟩⟩
  refine ⟨fun _ => rfl, fun _ => ⟨fun h0 => ?_, fun _ => two⟩⟩
  rw [bNot_t] at h0
  obtain ⟨a, b, c⟩ := more_eq h n w 0 1 (.inl ⟨rfl, rfl⟩) h0
  exact ⟨no a, fun _ => ⟨no b, fun _ => ⟨no (by rw [bNot_eq, c]; rfl), fun _ => two⟩⟩⟩

theorem f6_h (h : Hart) (n : Int) (w : Bool) : (runT (mkCtx csrRows psT ssL 4) Try.f6 [.v .hart, .v i64, .v .bo] (.one .bo) (h, n, w, ())).holds fun r => r.1 = true := by
  rw [f6_t]
  exact T.mp_holds (gMore_h h n w)

end Go.Mir

namespace Go.Mir
open Go.Proofs

set_option maxRecDepth 100000

/-! ### The four statements as contracts: they give true -/
theorem one_true {l : List Pa} (hl : cnt l = 0) {t : T ((Re.one .bo).D × Objs l)} {z : Objs l} (h : t.holds fun r => r.1 = true) : t.holds fun r => r = (true, z) :=
  T.holds_mono (fun r hr => Prod.ext hr (objs_one l hl _ _)) h

def sTells : PSpec := pspec csrRows [.v .hart, .v i64, .v .bo, .v u64, .v u64, .v u64] (.one .bo) (fun x => [HTy x.1, inU x.2.2.2.1]) fun _ => true
theorem f3_s : PSound Try.prog csrRows 3 sTells :=
  pspec_sound (fn := Try.f3) (l := [.v .hart, .v i64, .v .bo, .v u64, .v u64, .v u64]) (re := .one .bo) (lT.ctx 0) csr_mix (fn_is (by kernel_rfl) (by kernel_rfl)) fun x hx =>
    one_true rfl (f3_h (hx _ (by simp)) x.2.1 x.2.2.1 (hx _ (by simp)) x.2.2.2.2.1 x.2.2.2.2.2.1)
def sBack : PSpec := pspec csrRows [.v .hart, .v i64, .v u64] (.one .bo) (fun x => [inU x.2.2.1]) fun _ => true
theorem f4_s : PSound Try.prog csrRows 4 sBack :=
  pspec_sound (fn := Try.f4) (l := [.v .hart, .v i64, .v u64]) (re := .one .bo) (lT.ctx 0) csr_mix (fn_is (by kernel_rfl) (by kernel_rfl)) fun x hx => one_true rfl (f4_h x.1 x.2.1 (hx _ (by simp)))
def sOnly : PSpec := pspec csrRows [.v .hart, .v i64, .v i64, .v u64, .v u64, .v u64] (.one .bo) (fun _ => []) fun _ => true
theorem f5_s : PSound Try.prog csrRows 5 sOnly :=
  pspec_sound (fn := Try.f5) (l := [.v .hart, .v i64, .v i64, .v u64, .v u64, .v u64]) (re := .one .bo) (lT.ctx 0) csr_mix (fn_is (by kernel_rfl) (by kernel_rfl)) fun x _ => one_true rfl (f5_h x.1 x.2.1 x.2.2.1 x.2.2.2.1 x.2.2.2.2.1 x.2.2.2.2.2.1)
def sMore : PSpec := pspec csrRows [.v .hart, .v i64, .v .bo] (.one .bo) (fun _ => []) fun _ => true
theorem f6_s : PSound Try.prog csrRows 6 sMore :=
  pspec_sound (fn := Try.f6) (l := [.v .hart, .v i64, .v .bo]) (re := .one .bo) (lT.ctx 4) csr_mix (fn_is (by kernel_rfl) (by kernel_rfl)) fun x _ => one_true rfl (f6_h x.1 x.2.1 x.2.2.1)

noncomputable def psK : List (Nat × PSpec) := [(3, sTells), (4, sBack), (5, sOnly), (6, sMore)] ++ psT
theorem lK : ListsOk Try.prog csrRows psK ssL := .consP (.consP (.consP (.consP lT f6_s) f5_s) f4_s) f3_s

/-! ### The loops' code -/
noncomputable def body7 : Code := match Try.f7.body with | some c => c | none => .skip
noncomputable def loopOf (i : Nat) : Code := match findB (blocksOf body7) i with | some (.loop c) => c | _ => .skip

/-- The first loop: all numbers. -/
def lp0 : Lp := ⟨[(2, .nu .i64)], [(1, .ptr 0 []), (0, .ff)], [(0, .hart)], [], 1⟩
def lpF : Env := [(1, .ptr 0 []), (0, .ff), (4, .sl 1 (.lit 0) (.lit 31) 1)]
def nums31 : List Nat := [0x100, 0x104, 0x105, 0x106, 0x140, 0x141, 0x142, 0x143, 0x144, 0x180, 0x300, 0x301, 0x302, 0x303, 0x304, 0x305, 0x306, 0x340, 0x341, 0x342, 0x343, 0x344, 0x3A0, 0x3EF, 0xB00, 0xB02, 0xC00, 0xC01, 0xC02, 0xF11, 0xF14]
def rowK : AV := .row (.lit 31) 1 (lnth (nums31.map (AV.lit .i64)))
def lpX (E : List (Nat × Sh)) : Lp := ⟨E, lpF, [(0, .hart)], [(1, rowK)], 2⟩
def lp6 : Lp := lpX [(5, .nu .i64), (6, .nu .i64), (7, .nu .i64)]
def lp4 : Lp := lpX [(5, .nu .i64), (6, .nu .i64)]
def lp2 : Lp := lpX [(5, .nu .i64)]
noncomputable abbrev ctxK0 (bs : List (Nat × BSpec)) : Ctx := mkCtxB csrRows psK ssL bs 0

/-! ### The loops' summaries -/
def k6 (c : Int) (h : Hart) : Hart := { h with priv := pickI [0, 1, 3] (toN c) }
def f6 (x : ZD lp6.E) (y : ZD lp6.M) : ZD lp6.E × ZD lp6.M := ((x.1, x.2.1, (3 : Int), ()), (k6 2 y.1, ()))
def pre6 (x : ZD lp6.E) (y : ZD lp6.M) : Prop := ((0 : Int) ≤ x.1 ∧ x.1 < (31 : Int)) ∧ ((0 : Int) ≤ x.2.1 ∧ x.2.1 < (31 : Int)) ∧ x.2.2.1 = (0 : Int) ∧ HTy y.1
def f4L (x : ZD lp4.E) (y : ZD lp4.M) : ZD lp4.E × ZD lp4.M := ((x.1, (31 : Int), ()), (k6 2 y.1, ()))
def pre4 (x : ZD lp4.E) (y : ZD lp4.M) : Prop := ((0 : Int) ≤ x.1 ∧ x.1 < (31 : Int)) ∧ x.2.1 = (0 : Int) ∧ HTy y.1
def f2L (_ : ZD lp2.E) (y : ZD lp2.M) : ZD lp2.E × ZD lp2.M := (((31 : Int), ()), (k6 2 y.1, ()))
def pre2 (x : ZD lp2.E) (y : ZD lp2.M) : Prop := x.1 = (0 : Int) ∧ HTy y.1
def k0 (n : Int) (h : Hart) : Hart := { h with priv := pickI [0, 1, 3] (toN (iRem (iAdd .i64 n 1) 3)), mstatus := iShl .u64 (iCv .u64 n) 14 }
def f0L (_ : ZD lp0.E) (y : ZD lp0.M) : ZD lp0.E × ZD lp0.M := (((4097 : Int), ()), (k0 4096 y.1, ()))
def pre0 (x : ZD lp0.E) (y : ZD lp0.M) : Prop := x.1 = (-1 : Int) ∧ HTy y.1
noncomputable def bsK : List (Nat × BSpec) := [(0, lp0.spec csrRows pre0 f0L), (2, lp2.spec csrRows pre2 f2L), (4, lp4.spec csrRows pre4 f4L), (6, lp6.spec csrRows pre6 f6)]
noncomputable abbrev ctxK : Ctx := ctxK0 bsK

end Go.Mir

namespace Go.Mir
open Go.Proofs

set_option maxRecDepth 100000

/-! ### Harts, changed -/
theorem HTy.priv_ {h : Hart} (t : HTy h) {p : Int} (hp : inI p) : HTy { h with priv := p } :=
  ⟨t.x, t.pcc, t.ddc, t.stcc, t.stdc, t.sscr, t.sepcc, t.mtcc, t.mtdc, t.mscr, t.mepcc, hp, t.mstatus, t.medeleg, t.mideleg, t.mie, t.mip, t.mscratch, t.sscratch, t.mcause, t.scause, t.mtval, t.stval, t.satp, t.mcounteren, t.scounteren, t.cycle, t.instret⟩
theorem HTy.mstatus_ {h : Hart} (t : HTy h) {p : Int} (hp : inU p) : HTy { h with mstatus := p } :=
  ⟨t.x, t.pcc, t.ddc, t.stcc, t.stdc, t.sscr, t.sepcc, t.mtcc, t.mtdc, t.mscr, t.mepcc, t.priv, hp, t.medeleg, t.mideleg, t.mie, t.mip, t.mscratch, t.sscratch, t.mcause, t.scause, t.mtval, t.stval, t.satp, t.mcounteren, t.scounteren, t.cycle, t.instret⟩
theorem HTy.pcc_ {h : Hart} (t : HTy h) {p : Cap} (hp : CTy p) : HTy { h with pcc := p } :=
  ⟨t.x, hp, t.ddc, t.stcc, t.stdc, t.sscr, t.sepcc, t.mtcc, t.mtdc, t.mscr, t.mepcc, t.priv, t.mstatus, t.medeleg, t.mideleg, t.mie, t.mip, t.mscratch, t.sscratch, t.mcause, t.scause, t.mtval, t.stval, t.satp, t.mcounteren, t.scounteren, t.cycle, t.instret⟩
theorem pick3_in (j : Nat) : inI (pickI [0, 1, 3] j) := by
  unfold pickI inI
  match j with
  | 0 => decide
  | 1 => decide
  | 2 => decide
  | j + 3 => simp
theorem HTy.k6_ {h : Hart} (t : HTy h) (c : Int) : HTy (k6 c h) := t.priv_ (pick3_in _)
theorem HTy.k0_ {h : Hart} (t : HTy h) (n : Int) : HTy (k0 n h) := (t.priv_ (pick3_in _)).mstatus_ (inU_shl _ _)
def g0 (h : Hart) : Hart := { h with pcc := { h.pcc with perms := 65023 } }
theorem HTy.g0_ {h : Hart} (t : HTy h) : HTy (g0 h) := t.pcc_ ⟨(show inI 65023 by unfold inI; decide), t.pcc.type, t.pcc.mode, t.pcc.e, t.pcc.b, t.pcc.t, t.pcc.addr⟩

theorem ltN_sym {a : Int} {n : Nat} (h : 0 ≤ a) (h' : a < n) : ltN (addLN (.lit 0) (.sym (toN a))).v n := by
  rw [ltN_iff]
  show toN a < n
  rw [toN_eq]; omega

/-! ### The rounds -/
def t6 (a b c : Int) (h : Hart) : T lp6.Out :=
  .br (iLt c 3) (
    .need (inB c 3) <| .need (ltN (addLN (.lit 0) (.sym (toN c))).v 3) <| .need (inB a 31) <| .need (ltN (addLN (.lit 0) (.sym (toN a))).v 31) <| .need (nneg (iCv .u64 b)) <| .need (HTy (k6 c h)) <|
    .need (inU (iShr .u64 10376293541461622783 (iCv .u64 b))) <| .br (bNot true) (.fail 203) <|
    .need (inB a 31) <| .need (ltN (addLN (.lit 0) (.sym (toN a))).v 31) <| .need (inB b 31) <| .need (ltN (addLN (.lit 0) (.sym (toN b))).v 31) <| .br (bNot true) (.fail 203) <|
    .br (iEq b 0) (
      .need (inB a 31) <| .need (ltN (addLN (.lit 0) (.sym (toN a))).v 31) <| .need (nneg (iCv .u64 (iMul .i64 c 20))) <| .need (inU (iShl .u64 32767 (iCv .u64 (iMul .i64 c 20)))) <| .br (bNot true) (.fail 203) <|
      .need (inB a 31) <| .need (ltN (addLN (.lit 0) (.sym (toN a))).v 31) <| .br (bNot true) (.fail 203) (.ret (true, ((a, b, iAdd .i64 c 1, ()), k6 c h, ()), [rowK])))
      (.ret (true, ((a, b, iAdd .i64 c 1, ()), k6 c h, ()), [rowK])))
    (.ret (false, ((a, b, c, ()), h, ()), [rowK]))
theorem t6_eq (a b c : Int) (h : Hart) : mev ctxK (loopOf 6) (lp6.env (a, b, c, ())) (lp6.mem (h, ())) 2 (lp6.k csrRows 6) = t6 a b c h := by kernel_rfl
def t4 (a b : Int) (h : Hart) : T lp4.Out :=
  .br (iLt b 31) (.need (([(1, rowK)] : Mem).map (fun p => lk (lp4.mem (h, ())) p.1) = [rowK]) <| .need (pre6 (a, b, (0 : Int), ()) (h, ())) <| .ret (true, ((a, iAdd .i64 b 1, ()), k6 2 h, ()), [rowK]))
    (.ret (false, ((a, b, ()), h, ()), [rowK]))
theorem t4_eq (a b : Int) (h : Hart) : mev ctxK (loopOf 4) (lp4.env (a, b, ())) (lp4.mem (h, ())) 2 (lp4.k csrRows 4) = t4 a b h := by kernel_rfl
def t2 (a : Int) (h : Hart) : T lp2.Out :=
  .br (iLt a 31) (.need (([(1, rowK)] : Mem).map (fun p => lk (lp2.mem (h, ())) p.1) = [rowK]) <| .need (pre4 (a, (0 : Int), ()) (h, ())) <| .ret (true, ((iAdd .i64 a 1, ()), k6 2 h, ()), [rowK]))
    (.ret (false, ((a, ()), h, ()), [rowK]))
theorem t2_eq (a : Int) (h : Hart) : mev ctxK (loopOf 2) (lp2.env (a, ())) (lp2.mem (h, ())) 2 (lp2.k csrRows 2) = t2 a h := by kernel_rfl
def t0 (n : Int) (h : Hart) : T lp0.Out :=
  .br (iLe n 4096) (
    .need (inB (iRem (iAdd .i64 n 1) 3) 3) <| .need (ltN (addLN (.lit 0) (.sym (toN (iRem (iAdd .i64 n 1) 3)))).v 3) <| .need (HTy (k0 n h)) <| .need (inU 18446744073709551615) <| .br (bNot true) (.fail 203) <|
    .need (HTy (g0 (k0 n h))) <| .need (inU 4096) <| .br (bNot true) (.fail 203) <| .ret (true, ((iAdd .i64 n 1, ()), k0 n h, ()), []))
    (.ret (false, ((n, ()), h, ()), []))
theorem t0_eq (n : Int) (h : Hart) : mev ctxK (loopOf 0) (lp0.env (n, ())) (lp0.mem (h, ())) 1 (lp0.k csrRows 0) = t0 n h := by kernel_rfl

/-! ### The summaries -/
theorem no_true {P : Prop} (h : bNot true = true) : P := by rw [bNot_eq] at h; cases h

/-- A hart as a loop over privileges leaves it. -/
def at6 (c : Int) (h₀ h : Hart) : Prop := (c = 0 ∧ h = h₀) ∨ (0 < c ∧ h = k6 (c - 1) h₀)

theorem s6_ok {N : Nat} (hok : codeOk N (loopOf 6) = true) (hB : Blks (fun id c => ∀ S, ctxK.B id = some S → BSound Try.prog ctxK N [] id c S) (loopOf 6)) : BSound Try.prog ctxK N [] 6 (.loop (loopOf 6)) (lp6.spec csrRows pre6 f6) := by
  refine Lp.sound (C := ctxK) (lK.ctxB bsK 0) csr_mix hok hB lp6 (by kernel_rfl) ⟨by kernel_rfl, by kernel_rfl⟩
    (fun x₀ y₀ x y => HTy y₀.1 ∧ ((0 : Int) ≤ x₀.1 ∧ x₀.1 < (31 : Int)) ∧ ((0 : Int) ≤ x₀.2.1 ∧ x₀.2.1 < (31 : Int)) ∧ x.1 = x₀.1 ∧ x.2.1 = x₀.2.1 ∧ ((0 : Int) ≤ x.2.2.1 ∧ x.2.2.1 ≤ (3 : Int)) ∧ at6 x.2.2.1 y₀.1 y.1)
    (fun x => ((3 : Int) - x.2.2.1).toNat) (fun x y hp => ⟨hp.2.2.2, hp.1, hp.2.1, rfl, rfl, ?_, .inl ⟨hp.2.2.1, rfl⟩⟩) ?_
  · have := hp.2.2.1
    exact ⟨Int.le_of_eq this.symm, by rw [this]; decide⟩
  · intro x₀ y₀ ⟨a', b', c', u⟩ ⟨h, v⟩ ⟨ty, ha, hb, e1, e2, hc, hh⟩
    obtain ⟨a, ea⟩ : ∃ a : Int, a = a' := ⟨_, rfl⟩
    obtain ⟨b, eb⟩ : ∃ a : Int, a = b' := ⟨_, rfl⟩
    obtain ⟨c, ec'⟩ : ∃ a : Int, a = c' := ⟨_, rfl⟩
    subst ea eb ec'
    simp only at e1 e2 hc hh
    have hc : (0 : Int) ≤ c ∧ c ≤ 3 := hc
    have hty : HTy h := by
      rcases hh with ⟨_, e⟩ | ⟨_, e⟩
      · rw [e]; exact ty
      · rw [e]; exact ty.k6_ _
    rw [← e1] at ha
    rw [← e2] at hb
    show (mev ctxK (loopOf 6) (lp6.env (a, b, c, ())) (lp6.mem (h, ())) 2 (lp6.k csrRows 6)).holds _
    rw [t6_eq]
    unfold t6
    have ia : inB a 31 := inB_iff.2 ⟨ha.1, by simpa using ha.2⟩
    have ib : inB b 31 := inB_iff.2 ⟨hb.1, by simpa using hb.2⟩
    have la := ltN_sym (n := 31) ha.1 (by simpa using ha.2)
    have lb := ltN_sym (n := 31) hb.1 (by simpa using hb.2)
    have big : inU 10376293541461622783 := by unfold inU; decide
    refine ⟨fun h3 => ?_, fun h3 => ?_⟩
    · rw [iLt_t] at h3
      have fin : (T.ret (true, ((a, b, iAdd .i64 c 1, ()), k6 c h, ()), [rowK]) : T lp6.Out).holds fun r => (r.2.2 = lp6.FM.map (·.2)) ∧ (r.1 = true → (HTy y₀.1 ∧ ((0 : Int) ≤ x₀.1 ∧ x₀.1 < (31 : Int)) ∧ ((0 : Int) ≤ x₀.2.1 ∧ x₀.2.1 < (31 : Int)) ∧ r.2.1.1.1 = x₀.1 ∧ r.2.1.1.2.1 = x₀.2.1 ∧ ((0 : Int) ≤ r.2.1.1.2.2.1 ∧ r.2.1.1.2.2.1 ≤ (3 : Int)) ∧ at6 r.2.1.1.2.2.1 y₀.1 r.2.1.2.1) ∧ ((3 : Int) - r.2.1.1.2.2.1).toNat < ((3 : Int) - c).toNat) ∧ (r.1 = false → r.2.1 = f6 x₀ y₀) := by
        have e : iAdd .i64 c 1 = c + 1 := iAdd_i (by omega) (by omega)
        refine ⟨rfl, fun _ => ⟨⟨ty, ?_, ?_, e1, e2, ?_, ?_⟩, ?_⟩, fun h' => by cases h'⟩
        · rw [← e1]; exact ha
        · rw [← e2]; exact hb
        · show (0 : Int) ≤ iAdd .i64 c 1 ∧ iAdd .i64 c 1 ≤ 3
          rw [e]; omega
        · show at6 (iAdd .i64 c 1) y₀.1 (k6 c h)
          rw [e]
          refine .inr ⟨by omega, ?_⟩
          rw [show c + 1 - 1 = c by omega]
          rcases hh with ⟨_, e⟩ | ⟨_, e⟩ <;> rw [e]
          rfl
        · show ((3 : Int) - iAdd .i64 c 1).toNat < ((3 : Int) - c).toNat
          rw [e]; omega
      refine ⟨inB_iff.2 ⟨hc.1, by simpa using h3⟩, ltN_sym hc.1 (by simpa using h3), ia, la, nneg_cv _, hty.k6_ _, inU_shr big _ _, fun h' => no_true h', fun _ => ⟨ia, la, ib, lb, fun h' => no_true h', fun _ => ⟨fun _ => ?_, fun _ => fin⟩⟩⟩
      exact ⟨ia, la, nneg_cv _, inU_shl _ _, fun h' => no_true h', fun _ => ⟨ia, la, fun h' => no_true h', fun _ => fin⟩⟩
    · rw [iLt_f] at h3
      refine And.intro rfl (And.intro (fun h' => Bool.noConfusion h') fun _ => ?_)
      have ec : c = 3 := by omega
      subst ec
      rcases hh with ⟨e, _⟩ | ⟨_, e⟩
      · omega
      · show ((a, b, (3 : Int), ()), h, ()) = f6 x₀ y₀
        unfold f6
        rw [e, e1, e2]
        rfl

/-- A hart as a loop over registers leaves it. -/
def at4 (c : Int) (h₀ h : Hart) : Prop := (c = 0 ∧ h = h₀) ∨ (0 < c ∧ h = k6 2 h₀)

theorem s4_ok {N : Nat} (hok : codeOk N (loopOf 4) = true) (hB : Blks (fun id c => ∀ S, ctxK.B id = some S → BSound Try.prog ctxK N [] id c S) (loopOf 4)) : BSound Try.prog ctxK N [] 4 (.loop (loopOf 4)) (lp4.spec csrRows pre4 f4L) := by
  refine Lp.sound (C := ctxK) (lK.ctxB bsK 0) csr_mix hok hB lp4 (by kernel_rfl) ⟨by kernel_rfl, by kernel_rfl⟩
    (fun x₀ y₀ x y => HTy y₀.1 ∧ ((0 : Int) ≤ x₀.1 ∧ x₀.1 < (31 : Int)) ∧ x.1 = x₀.1 ∧ ((0 : Int) ≤ x.2.1 ∧ x.2.1 ≤ (31 : Int)) ∧ at4 x.2.1 y₀.1 y.1)
    (fun x => ((31 : Int) - x.2.1).toNat) (fun x y hp => ⟨hp.2.2, hp.1, rfl, ?_, .inl ⟨hp.2.1, rfl⟩⟩) ?_
  · have := hp.2.1
    exact ⟨Int.le_of_eq this.symm, by rw [this]; decide⟩
  · intro x₀ y₀ ⟨a', b', u⟩ ⟨h, v⟩ ⟨ty, ha, e1, hb, hh⟩
    obtain ⟨a, ea⟩ : ∃ a : Int, a = a' := ⟨_, rfl⟩
    obtain ⟨b, eb⟩ : ∃ a : Int, a = b' := ⟨_, rfl⟩
    subst ea eb
    simp only at e1 hb hh
    have hb : (0 : Int) ≤ b ∧ b ≤ 31 := hb
    have hty : HTy h := by
      rcases hh with ⟨_, e⟩ | ⟨_, e⟩
      · rw [e]; exact ty
      · rw [e]; exact ty.k6_ _
    show (mev ctxK (loopOf 4) (lp4.env (a, b, ())) (lp4.mem (h, ())) 2 (lp4.k csrRows 4)).holds _
    rw [t4_eq]
    unfold t4
    refine ⟨fun h3 => ?_, fun h3 => ?_⟩
    · rw [iLt_t] at h3
      have e : iAdd .i64 b 1 = b + 1 := iAdd_i (by omega) (by omega)
      refine ⟨rfl, ⟨by rw [← e1] at ha; exact ha, ⟨hb.1, h3⟩, rfl, hty⟩, rfl, fun _ => ⟨⟨ty, ha, e1, ?_, ?_⟩, ?_⟩, fun h' => by cases h'⟩
      · show (0 : Int) ≤ iAdd .i64 b 1 ∧ iAdd .i64 b 1 ≤ 31
        rw [e]; omega
      · show at4 (iAdd .i64 b 1) y₀.1 (k6 2 h)
        rw [e]
        refine .inr ⟨by omega, ?_⟩
        rcases hh with ⟨_, e⟩ | ⟨_, e⟩ <;> rw [e]
        rfl
      · show ((31 : Int) - iAdd .i64 b 1).toNat < ((31 : Int) - b).toNat
        rw [e]; omega
    · rw [iLt_f] at h3
      refine And.intro rfl (And.intro (fun h' => Bool.noConfusion h') fun _ => ?_)
      have ec : b = 31 := by omega
      subst ec
      rcases hh with ⟨e, _⟩ | ⟨_, e⟩
      · omega
      · show ((a, (31 : Int), ()), h, ()) = f4L x₀ y₀
        unfold f4L
        rw [e, e1]
        rfl

theorem s2_ok {N : Nat} (hok : codeOk N (loopOf 2) = true) (hB : Blks (fun id c => ∀ S, ctxK.B id = some S → BSound Try.prog ctxK N [] id c S) (loopOf 2)) : BSound Try.prog ctxK N [] 2 (.loop (loopOf 2)) (lp2.spec csrRows pre2 f2L) := by
  refine Lp.sound (C := ctxK) (lK.ctxB bsK 0) csr_mix hok hB lp2 (by kernel_rfl) ⟨by kernel_rfl, by kernel_rfl⟩
    (fun x₀ y₀ x y => HTy y₀.1 ∧ ((0 : Int) ≤ x.1 ∧ x.1 ≤ (31 : Int)) ∧ at4 x.1 y₀.1 y.1)
    (fun x => ((31 : Int) - x.1).toNat) (fun x y hp => ⟨hp.2, ?_, .inl ⟨hp.1, rfl⟩⟩) ?_
  · have := hp.1
    exact ⟨Int.le_of_eq this.symm, by rw [this]; decide⟩
  · intro x₀ y₀ ⟨a', u⟩ ⟨h, v⟩ ⟨ty, ha, hh⟩
    obtain ⟨a, ea⟩ : ∃ a : Int, a = a' := ⟨_, rfl⟩
    subst ea
    simp only at ha hh
    have ha : (0 : Int) ≤ a ∧ a ≤ 31 := ha
    have hty : HTy h := by
      rcases hh with ⟨_, e⟩ | ⟨_, e⟩
      · rw [e]; exact ty
      · rw [e]; exact ty.k6_ _
    show (mev ctxK (loopOf 2) (lp2.env (a, ())) (lp2.mem (h, ())) 2 (lp2.k csrRows 2)).holds _
    rw [t2_eq]
    unfold t2
    refine ⟨fun h3 => ?_, fun h3 => ?_⟩
    · rw [iLt_t] at h3
      have e : iAdd .i64 a 1 = a + 1 := iAdd_i (by omega) (by omega)
      refine ⟨rfl, ⟨⟨ha.1, h3⟩, rfl, hty⟩, rfl, fun _ => ⟨⟨ty, ?_, ?_⟩, ?_⟩, fun h' => by cases h'⟩
      · show (0 : Int) ≤ iAdd .i64 a 1 ∧ iAdd .i64 a 1 ≤ 31
        rw [e]; omega
      · show at4 (iAdd .i64 a 1) y₀.1 (k6 2 h)
        rw [e]
        refine .inr ⟨by omega, ?_⟩
        rcases hh with ⟨_, e⟩ | ⟨_, e⟩ <;> rw [e]
        rfl
      · show ((31 : Int) - iAdd .i64 a 1).toNat < ((31 : Int) - a).toNat
        rw [e]; omega
    · rw [iLt_f] at h3
      refine And.intro rfl (And.intro (fun h' => Bool.noConfusion h') fun _ => ?_)
      have ec : a = 31 := by omega
      subst ec
      rcases hh with ⟨e, _⟩ | ⟨_, e⟩
      · omega
      · show (((31 : Int), ()), h, ()) = f2L x₀ y₀
        unfold f2L
        rw [e]
        rfl

/-- A hart as the loop over all numbers leaves it. -/
def at0 (n : Int) (h₀ h : Hart) : Prop := (n = -1 ∧ h = h₀) ∨ (-1 < n ∧ h = k0 (n - 1) h₀)

theorem s0_ok {N : Nat} (hok : codeOk N (loopOf 0) = true) (hB : Blks (fun id c => ∀ S, ctxK.B id = some S → BSound Try.prog ctxK N [] id c S) (loopOf 0)) : BSound Try.prog ctxK N [] 0 (.loop (loopOf 0)) (lp0.spec csrRows pre0 f0L) := by
  refine Lp.sound (C := ctxK) (lK.ctxB bsK 0) csr_mix hok hB lp0 (by kernel_rfl) ⟨by kernel_rfl, by kernel_rfl⟩
    (fun x₀ y₀ x y => HTy y₀.1 ∧ ((-1 : Int) ≤ x.1 ∧ x.1 ≤ (4097 : Int)) ∧ at0 x.1 y₀.1 y.1)
    (fun x => ((4097 : Int) - x.1).toNat) (fun x y hp => ⟨hp.2, ?_, .inl ⟨hp.1, rfl⟩⟩) ?_
  · have := hp.1
    exact ⟨Int.le_of_eq this.symm, by rw [this]; decide⟩
  · intro x₀ y₀ ⟨n', u⟩ ⟨h, v⟩ ⟨ty, hn, hh⟩
    obtain ⟨n, ea⟩ : ∃ a : Int, a = n' := ⟨_, rfl⟩
    subst ea
    simp only at hn hh
    have hn : (-1 : Int) ≤ n ∧ n ≤ 4097 := hn
    have hty : HTy h := by
      rcases hh with ⟨_, e⟩ | ⟨_, e⟩
      · rw [e]; exact ty
      · rw [e]; exact ty.k0_ _
    show (mev ctxK (loopOf 0) (lp0.env (n, ())) (lp0.mem (h, ())) 1 (lp0.k csrRows 0)).holds _
    rw [t0_eq]
    unfold t0
    refine ⟨fun h3 => ?_, fun h3 => ?_⟩
    · rw [iLe_t] at h3
      have e : iAdd .i64 n 1 = n + 1 := iAdd_i (by omega) (by omega)
      have er : iRem (iAdd .i64 n 1) 3 = (n + 1) % 3 := by rw [e, iRem_n (by omega)]
      refine ⟨?_, ?_, hty.k0_ _, by unfold inU; decide, fun h' => no_true h', fun _ => ⟨(hty.k0_ _).g0_, by unfold inU; decide, fun h' => no_true h', fun _ => ⟨rfl, fun _ => ⟨⟨ty, ?_, ?_⟩, ?_⟩, fun h' => by cases h'⟩⟩⟩
      · rw [er, inB_iff]; omega
      · rw [er]; exact ltN_sym (by omega) (by omega)
      · show (-1 : Int) ≤ iAdd .i64 n 1 ∧ iAdd .i64 n 1 ≤ 4097
        rw [e]; omega
      · show at0 (iAdd .i64 n 1) y₀.1 (k0 n h)
        rw [e]
        refine .inr ⟨by omega, ?_⟩
        rw [show n + 1 - 1 = n by omega]
        rcases hh with ⟨_, e⟩ | ⟨_, e⟩ <;> rw [e]
        rfl
      · show ((4097 : Int) - iAdd .i64 n 1).toNat < ((4097 : Int) - n).toNat
        rw [e]; omega
    · rw [iLe_f] at h3
      refine And.intro rfl (And.intro (fun h' => Bool.noConfusion h') fun _ => ?_)
      have ec : n = 4097 := by omega
      subst ec
      rcases hh with ⟨e, _⟩ | ⟨_, e⟩
      · omega
      · show (((4097 : Int), ()), h, ()) = f0L x₀ y₀
        unfold f0L
        rw [e]
        rfl

/-! ### All blocks -/
theorem bl (i : Nat) (c : Code) (hc : findB (blocksOf body7) i = some (.loop c)) : loopOf i = c := by unfold loopOf; rw [hc]
theorem ok_all : codeOk 121 body7 = true := by kernel_rfl

theorem b6 : Blks (fun id c => ∀ S, ctxK.B id = some S → BSound Try.prog ctxK 121 [] id c S) (loopOf 6) :=
  blks_ctx (bs := bsK) (by kernel_rfl) (by
    intro q hq c' hf
    simp only [bsK, List.mem_cons, List.not_mem_nil, or_false] at hq
    rcases hq with rfl | rfl | rfl | rfl
    · rw [show findB (blocksOf (loopOf 6)) 0 = none by kernel_rfl] at hf; cases hf
    · rw [show findB (blocksOf (loopOf 6)) 2 = none by kernel_rfl] at hf; cases hf
    · rw [show findB (blocksOf (loopOf 6)) 4 = none by kernel_rfl] at hf; cases hf
    · rw [show findB (blocksOf (loopOf 6)) 6 = none by kernel_rfl] at hf; cases hf)
theorem b4 : Blks (fun id c => ∀ S, ctxK.B id = some S → BSound Try.prog ctxK 121 [] id c S) (loopOf 4) :=
  blks_ctx (bs := bsK) (by kernel_rfl) (by
    intro q hq c' hf
    simp only [bsK, List.mem_cons, List.not_mem_nil, or_false] at hq
    rcases hq with rfl | rfl | rfl | rfl
    · rw [show findB (blocksOf (loopOf 4)) 0 = none by kernel_rfl] at hf; cases hf
    · rw [show findB (blocksOf (loopOf 4)) 2 = none by kernel_rfl] at hf; cases hf
    · rw [show findB (blocksOf (loopOf 4)) 4 = none by kernel_rfl] at hf; cases hf
    · rw [show findB (blocksOf (loopOf 4)) 6 = some (.loop (loopOf 6)) by kernel_rfl] at hf
      cases hf
      exact s6_ok (by kernel_rfl) b6)
theorem b2' : Blks (fun id c => ∀ S, ctxK.B id = some S → BSound Try.prog ctxK 121 [] id c S) (loopOf 2) :=
  blks_ctx (bs := bsK) (by kernel_rfl) (by
    intro q hq c' hf
    simp only [bsK, List.mem_cons, List.not_mem_nil, or_false] at hq
    rcases hq with rfl | rfl | rfl | rfl
    · rw [show findB (blocksOf (loopOf 2)) 0 = none by kernel_rfl] at hf; cases hf
    · rw [show findB (blocksOf (loopOf 2)) 2 = none by kernel_rfl] at hf; cases hf
    · rw [show findB (blocksOf (loopOf 2)) 4 = some (.loop (loopOf 4)) by kernel_rfl] at hf
      cases hf
      exact s4_ok (by kernel_rfl) b4
    · rw [show findB (blocksOf (loopOf 2)) 6 = some (.loop (loopOf 6)) by kernel_rfl] at hf
      cases hf
      exact s6_ok (by kernel_rfl) b6)
theorem b0 : Blks (fun id c => ∀ S, ctxK.B id = some S → BSound Try.prog ctxK 121 [] id c S) (loopOf 0) :=
  blks_ctx (bs := bsK) (by kernel_rfl) (by
    intro q hq c' hf
    simp only [bsK, List.mem_cons, List.not_mem_nil, or_false] at hq
    rcases hq with rfl | rfl | rfl | rfl
    · rw [show findB (blocksOf (loopOf 0)) 0 = none by kernel_rfl] at hf; cases hf
    · rw [show findB (blocksOf (loopOf 0)) 2 = none by kernel_rfl] at hf; cases hf
    · rw [show findB (blocksOf (loopOf 0)) 4 = none by kernel_rfl] at hf; cases hf
    · rw [show findB (blocksOf (loopOf 0)) 6 = none by kernel_rfl] at hf; cases hf)
theorem bAll : Blks (fun id c => ∀ S, ctxK.B id = some S → BSound Try.prog ctxK 121 [] id c S) body7 :=
  blks_ctx (bs := bsK) (by kernel_rfl) (by
    intro q hq c' hf
    simp only [bsK, List.mem_cons, List.not_mem_nil, or_false] at hq
    rcases hq with rfl | rfl | rfl | rfl
    · rw [show findB (blocksOf body7) 0 = some (.loop (loopOf 0)) by kernel_rfl] at hf
      cases hf
      exact s0_ok (by kernel_rfl) b0
    · rw [show findB (blocksOf body7) 2 = some (.loop (loopOf 2)) by kernel_rfl] at hf
      cases hf
      exact s2_ok (by kernel_rfl) b2'
    · rw [show findB (blocksOf body7) 4 = some (.loop (loopOf 4)) by kernel_rfl] at hf
      cases hf
      exact s4_ok (by kernel_rfl) b4
    · rw [show findB (blocksOf body7) 6 = some (.loop (loopOf 6)) by kernel_rfl] at hf
      cases hf
      exact s6_ok (by kernel_rfl) b6)

theorem f7_is : FnIs Try.prog ctxK 7 Try.f7 0 :=
  ⟨by kernel_rfl, callFunc_enters (fn := Try.f7) (c := body7) (by kernel_rfl) (by kernel_rfl) (by kernel_rfl), ⟨body7, by kernel_rfl, ok_all, bAll⟩, Nat.zero_le _⟩

/-! ### The statement's own run -/
noncomputable def hK : Hart := { machine with mideleg := 546, mcounteren := 5, scounteren := 6, mie := 65535, mip := 65535 }
noncomputable def g7 : T (Bool × Unit) :=
  .need (([] : List AV) = []) <| .need (pre0 ((-1 : Int), ()) (hK, ())) <| .need ([rowK] = [rowK]) <| .need (pre2 ((0 : Int), ()) (k0 4096 hK, ())) <| .ret (true, ())
theorem f7_t : runT ctxK Try.f7 [] (.one .bo) () = g7 := by kernel_rfl

theorem CTy_root (c : Cap) (h : c = ⟨true, 65535, 262143, 0, 52, 0, 0, true, 0⟩) : CTy c := by
  subst h
  refine ⟨?_, ?_, ?_, ?_, ?_, ?_, ?_⟩ <;> simp [inI, inU]
theorem CTy_num (c : Cap) (h : c = ⟨false, 0, 262143, 0, 52, 0, 0, true, 0⟩) : CTy c := by
  subst h
  refine ⟨?_, ?_, ?_, ?_, ?_, ?_, ?_⟩ <;> simp [inI, inU]
theorem in0' : inU 0 := by unfold inU; decide

theorem machine_x : ∀ i, i < 32 → CTy (machine.x i) := by
  intro i hi
  match i, hi with
  | 0, _ => exact CTy_num _ (by kernel_rfl)
  | 1, _ => exact CTy_num _ (by kernel_rfl)
  | 2, _ => exact CTy_num _ (by kernel_rfl)
  | 3, _ => exact CTy_num _ (by kernel_rfl)
  | 4, _ => exact CTy_num _ (by kernel_rfl)
  | 5, _ => exact CTy_num _ (by kernel_rfl)
  | 6, _ => exact CTy_num _ (by kernel_rfl)
  | 7, _ => exact CTy_num _ (by kernel_rfl)
  | 8, _ => exact CTy_num _ (by kernel_rfl)
  | 9, _ => exact CTy_num _ (by kernel_rfl)
  | 10, _ => exact CTy_num _ (by kernel_rfl)
  | 11, _ => exact CTy_num _ (by kernel_rfl)
  | 12, _ => exact CTy_num _ (by kernel_rfl)
  | 13, _ => exact CTy_num _ (by kernel_rfl)
  | 14, _ => exact CTy_num _ (by kernel_rfl)
  | 15, _ => exact CTy_num _ (by kernel_rfl)
  | 16, _ => exact CTy_num _ (by kernel_rfl)
  | 17, _ => exact CTy_num _ (by kernel_rfl)
  | 18, _ => exact CTy_num _ (by kernel_rfl)
  | 19, _ => exact CTy_num _ (by kernel_rfl)
  | 20, _ => exact CTy_num _ (by kernel_rfl)
  | 21, _ => exact CTy_num _ (by kernel_rfl)
  | 22, _ => exact CTy_num _ (by kernel_rfl)
  | 23, _ => exact CTy_num _ (by kernel_rfl)
  | 24, _ => exact CTy_num _ (by kernel_rfl)
  | 25, _ => exact CTy_num _ (by kernel_rfl)
  | 26, _ => exact CTy_num _ (by kernel_rfl)
  | 27, _ => exact CTy_num _ (by kernel_rfl)
  | 28, _ => exact CTy_num _ (by kernel_rfl)
  | 29, _ => exact CTy_num _ (by kernel_rfl)
  | 30, _ => exact CTy_num _ (by kernel_rfl)
  | 31, _ => exact CTy_num _ (by kernel_rfl)
  | i + 32, h => omega

theorem hK_ty : HTy hK :=
  ⟨machine_x, CTy_root _ (by kernel_rfl), CTy_root _ (by kernel_rfl), CTy_root _ (by kernel_rfl), CTy_root _ (by kernel_rfl), CTy_root _ (by kernel_rfl), CTy_root _ (by kernel_rfl), CTy_root _ (by kernel_rfl), CTy_root _ (by kernel_rfl), CTy_root _ (by kernel_rfl), CTy_root _ (by kernel_rfl),
    (show inI machine.priv by rw [show machine.priv = 3 by kernel_rfl]; unfold inI; decide),
    (show inU machine.mstatus by rw [show machine.mstatus = 0 by kernel_rfl]; exact in0'), (show inU machine.medeleg by rw [show machine.medeleg = 0 by kernel_rfl]; exact in0'), (show inU 546 by unfold inU; decide), (show inU 65535 by unfold inU; decide), (show inU 65535 by unfold inU; decide),
    (show inU machine.mscratch by rw [show machine.mscratch = 0 by kernel_rfl]; exact in0'), (show inU machine.sscratch by rw [show machine.sscratch = 0 by kernel_rfl]; exact in0'), (show inU machine.mcause by rw [show machine.mcause = 0 by kernel_rfl]; exact in0'),
    (show inU machine.scause by rw [show machine.scause = 0 by kernel_rfl]; exact in0'), (show inU machine.mtval by rw [show machine.mtval = 0 by kernel_rfl]; exact in0'), (show inU machine.stval by rw [show machine.stval = 0 by kernel_rfl]; exact in0'),
    (show inU machine.satp by rw [show machine.satp = 0 by kernel_rfl]; exact in0'), (show inU 5 by unfold inU; decide), (show inU 6 by unfold inU; decide), (show inU machine.cycle by rw [show machine.cycle = 0 by kernel_rfl]; exact in0'), (show inU machine.instret by rw [show machine.instret = 0 by kernel_rfl]; exact in0')⟩

theorem f7_h : (runT ctxK Try.f7 [] (.one .bo) ()).holds fun r => r.1 = true := by
  rw [f7_t]
  exact ⟨rfl, ⟨rfl, hK_ty⟩, rfl, ⟨rfl, hK_ty.k0_ _⟩, rfl⟩

end Go.Mir

namespace Go.Proofs.Ytfdnbpndnmlmpaa.csrKnown
open Go.Mir Go.ChangeShapes Go.WideShapes Go.ChangeAt Go.RowKit

set_option maxRecDepth 100000

theorem walk (W : World) :
    Calls Try.prog 7 #[] W fun e W' => e = .returned (.bool true) ∧ Same (fun _ _ => False) W W' :=
  law_calls (fn := Try.f7) (l := []) (lK.ctxB bsK 0) csr_mix f7_is rfl () ⟨fun _ => default, fun _ => default⟩ (f7_h) W

theorem lifted (os : Os) (started : os.Started) (H : Type) (enc : TypeId × Value → H) :
    ReturnsInHanded {} Try.checked os 7 .any (Rows.csrKnownSpec.pre6 enc Try.prog Try.f7 Rows.csrKnownRow.domain false) (Rows.csrKnownSpec.post enc Try.prog Try.f7 false true false false) := by
  refine returnsInHanded_of_change (C := Try.checked) own started (by kernel_rfl) Try.func7
    (ChangeSpec.witness6 (enc := enc) (C := Try.checked) false ⟨#[], #[], []⟩ 8 (by kernel_rfl) (by kernel_rfl) (by kernel_rfl) (by kernel_rfl)) ?_
  intro W base args ds gs before hval0 hW hcnd _
  have hval : ∀ (j : Nat) t v, Try.f7.params[j]? = some t → args[j]? = some v → Value.okWide Try.prog W .any base t v := hval0
  have hW' := hW
  obtain ⟨p, q, hA0, hV, rfl, hfz, hnd⟩ := hW
  have hA : DataW.TrodAll enc Try.prog W 0 (fun _ => true) true Try.f7.params.toList args.toList ds p := hA0
  obtain ⟨rfl, rfl⟩ := trodVars_none hV
  rw [Try.params7] at hA hval
  obtain ⟨hargs, rfl, rfl⟩ := trodAll_nil hA
  obtain rfl : args = #[] := by cases args; simp_all
  refine (walk   W).mono fun e W' ⟨he, hs⟩ => ?_
  exact ⟨_, he, post_law hW' rfl rfl (by kernel_rfl) Try.underlying4 (d := 8) (by kernel_rfl) hs⟩

theorem over : Rows.csrKnownRow.holds Try.pinned (OpenSpec.ofChange Rows.csrKnownSpec) :=
  OpenClaim.holds_of_wide 7 Try.f7 rfl rfl rfl rfl rfl rfl rfl ⟨rfl, rfl, rfl, rfl, rfl⟩ rfl rfl rfl rfl rfl (by kernel_rfl) Try.func7 (by kernel_rfl)
    (of_decide_eq_true (by kernel_rfl)) (by unfold Func.isWrapper; first | (rw [if_pos (by decide +kernel)]; kernel_rfl) | (rw [if_neg (by decide +kernel)]; exact ⟨rfl, rfl⟩))
    (fun os started H enc _ => lifted os started H enc)

theorem proved : Rows.CsrKnownSaid := over

end Go.Proofs.Ytfdnbpndnmlmpaa.csrKnown
