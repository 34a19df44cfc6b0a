/-
CsrMore returns true for every input, and its arguments read behind the call as before. No conditions beyond those of the given row.
-/
import Derived.Test.YtfdnbpndnmlmpaaRows
import Derived.Test.YtfdnbpndnmlmpaaCsrMoreP7

set_option linter.unusedVariables false
set_option linter.unusedSimpArgs false

namespace Go.Mir
open Go.Proofs

set_option maxRecDepth 100000

def capTs : List TypeId := [4, 3, 3, 3, 3, 3, 3, 4, 22]
def hartTs : List TypeId := (List.replicate 42 capTs).flatten ++ [3, 22, 22, 22, 22, 22, 22, 22, 22, 22, 22, 22, 22, 22, 22, 22, 22, 4]
theorem hart_ts : Try.prog.cellTypes Try.prog.depth 27 = some hartTs := by kernel_rfl
theorem hart_ks : hartTs.map (ckOf Try.prog) = hartK.map some := by kernel_rfl
theorem hart_len : Try.prog.cellsOf 27 = hartK.length := by kernel_rfl

theorem open_hart {w : World} {r : Reach} {b : Nat} {v : Value} (h : Value.okWide Try.prog w r b 27 v) : ∃ x : Hart, v = .agg (hartCells x).toArray ∧ HTy x := by
  obtain ⟨cs, rfl, ht⟩ := typed_row Try.underlying27 hart_ts hart_ks hart_len h
  obtain ⟨x, rfl, hx⟩ := typed_hart ht
  exact ⟨x, rfl, hx⟩

theorem own : ownKnob Try.prog.godebug = none := by kernel_rfl
def hart0 : Hart := ⟨fun _ => default, default, default, default, default, default, default, default, default, default, default, 0, 0, 0, 0, 0, 0, 0, 0, 0, 0, 0, 0, 0, 0, 0, 0, 0, false⟩
theorem plain_tells : ([27, 3, 4, 22, 22, 22].all (plainB Try.prog 8)) = true := by kernel_rfl

end Go.Mir

namespace Go.Mir
open Go.Proofs

abbrev u64 : Sh := .nu .u64
abbrev i64 : Sh := .nu .i64
abbrev W : Sh := .rc (.pr (.nu .u64) (.pr (.nu .u64) .en))
abbrev Wd : Type := Int × Int × Unit

set_option maxRecDepth 100000

theorem l0 : ListsOk Try.prog csrRows [] [] := .nil csr_tab

/- truth, one -/
def truth (b : Bool) : Int := bif b then 1 else 0
def sTruth : PSpec := pspec csrRows [.v .bo] (.one i64) (fun _ => []) fun x => truth x.1
theorem f80_s : PSound Try.prog csrRows 80 sTruth :=
  pure_sound (fn := Try.f80) (l0.ctx 0) csr_mix rfl (fn_is (by kernel_rfl) (by kernel_rfl)) (fun x => by kernel_rfl) fun x _ => T.req_clean (by kernel_rfl)
theorem f85_s : PSound Try.prog csrRows 85 sTruth :=
  pure_sound (fn := Try.f85) (l0.ctx 0) csr_mix rfl (fn_is (by kernel_rfl) (by kernel_rfl)) (fun x => by kernel_rfl) fun x _ => T.req_clean (by kernel_rfl)

/- part: the upper part with a step -/
def refPart (a s : Int) : Int × Bool × Unit := bif iLt s 0 then (iSub .u64 a 1, iEq a 0, ()) else (iAdd .u64 a (iCv .u64 s), false, ())
def sPart : PSpec := pspec csrRows [.v u64, .v i64] (.tu [u64, .bo]) (fun _ => []) fun x => refPart x.1 x.2.1
theorem f81_s : PSound Try.prog csrRows 81 sPart :=
  pure_sound (fn := Try.f81) (l0.ctx 0) csr_mix rfl (fn_is (by kernel_rfl) (by kernel_rfl)) (fun x => by kernel_rfl) fun x _ => T.req_clean (by kernel_rfl)

/- add: numbers of 65 bits -/
def refAdd (a b : Wd) : Wd :=
  bif iLt (iAdd .u64 a.2.1 b.2.1) a.2.1 then (iRem (iAdd .u64 (iAdd .u64 a.1 b.1) 1) 2, iAdd .u64 a.2.1 b.2.1, ()) else (iRem (iAdd .u64 a.1 b.1) 2, iAdd .u64 a.2.1 b.2.1, ())
def sAdd : PSpec := pspec csrRows [.v W, .v W] (.one W) (fun _ => []) fun x => refAdd x.1 x.2.1
theorem f82_s : PSound Try.prog csrRows 82 sAdd :=
  pure_sound (fn := Try.f82) (l0.ctx 0) csr_mix rfl (fn_is (by kernel_rfl) (by kernel_rfl)) (fun x => by kernel_rfl) fun x _ => T.req_clean (by kernel_rfl)

/- signed: a small number, below 0 too -/
def signed (v : Int) : Wd := (iShr .u64 (iCv .u64 v) 63, iCv .u64 v, ())
def sSigned : PSpec := pspec csrRows [.v i64] (.one W) (fun _ => []) fun x => signed x.1
theorem f87_s : PSound Try.prog csrRows 87 sSigned :=
  pure_sound (fn := Try.f87) (l0.ctx 0) csr_mix rfl (fn_is (by kernel_rfl) (by kernel_rfl)) (fun x => by kernel_rfl) fun x _ => T.req_clean (by kernel_rfl)

/- up: shifted up by 0 to 65 -/
def upW (a : Wd) (n : Int) : Wd :=
  bif iEq n 0 then a else bif iLe 65 n then (0, 0, ()) else bif iEq n 64 then (iAnd .u64 a.2.1 1, 0, ()) else (iAnd .u64 (iShr .u64 a.2.1 (iSub .i64 64 n)) 1, iShl .u64 a.2.1 n, ())
def sUp : PSpec := pspec csrRows [.v W, .v i64] (.one W) (fun x => [(0 : Int) ≤ x.2.1]) fun x => upW x.1 x.2.1
theorem f88_req (a : Wd) (n : Int) : (runT (mkCtx csrRows [] [] 0) Try.f88 [.v W, .v i64] (.one W) (a, n, ())).req = (iEq n 0 = false → iLe 65 n = false → iEq n 64 = false → nneg (iSub .i64 64 n) ∧ nneg n) := by kernel_rfl
theorem f88_s : PSound Try.prog csrRows 88 sUp :=
  pure_sound (fn := Try.f88) (l0.ctx 0) csr_mix rfl (fn_is (by kernel_rfl) (by kernel_rfl)) (fun x => by kernel_rfl) fun x hx => T.ok_req (by
    obtain ⟨a, n, u⟩ := x
    have hn : (0 : Int) ≤ n := hx _ (List.mem_singleton.2 rfl)
    rw [f88_req a n]
    intro h1 h2 h3
    rw [iEq_f] at h1 h3; rw [iLe_f] at h2
    have h2 : (n : Int) < 65 := h2
    rw [nneg_iff, nneg_iff, iSub_i (by omega) (by omega)]
    have h3 : (n : Int) ≠ 64 := h3
    omega)

/- plus: a sum, modulo 2^65 -/
theorem f90_s : PSound Try.prog csrRows 90 (add64Spec csrRows) := add64_sound (fn := Try.f90) (by kernel_rfl) (by kernel_rfl) (by kernel_rfl) (by kernel_rfl) (by kernel_rfl)
theorem l1 : ListsOk Try.prog csrRows [(90, add64Spec csrRows)] [] := .consP l0 f90_s

def plus (a b : Wd) : Wd := (iAnd .u64 (iAdd .u64 (iAdd .u64 a.1 b.1) (addHi a.2.1 b.2.1 0)) 1, addLo a.2.1 b.2.1 0, ())
def sPlus : PSpec := pspec csrRows [.v W, .v W] (.one W) (fun x => [addOk x.1.2.1 x.2.1.2.1 0]) fun x => plus x.1 x.2.1
theorem f89_s : PSound Try.prog csrRows 89 sPlus :=
  pure_sound (fn := Try.f89) (l1.ctx 0) csr_mix rfl (fn_is (by kernel_rfl) (by kernel_rfl)) (fun x => by kernel_rfl) fun x hx => T.ok_req (by
    have h0 := hx _ (List.mem_singleton.2 rfl)
    rw [show (runT (mkCtx csrRows [(90, add64Spec csrRows)] [] 0) Try.f89 [.v W, .v W] (.one W) x).req = addOk x.1.2.1 x.2.1.2.1 0 by kernel_rfl]
    exact h0)

/- up, by steps of one: numbers modulo 2^65 -/
def upL : Nat → Nat → Int → Int → Int → Wd
  | 0, _, _, _, _ => (0, 0, ())
  | k + 1, i, n, h, l => bif iLt (Int.ofNat i) n then upL k (i + 1) n (iShr .u64 l 63) (iShl .u64 l 1) else (h, l, ())
def refUp (a : Int) (b : Bool) (n : Int) : Wd := bif b then upL 67 0 n 1 a else upL 67 0 n 0 a
def chain : Nat → Nat → Int → Prop
  | 0, _, _ => False
  | k + 1, i, n => iLt (Int.ofNat i) n = true → chain k (i + 1) n
theorem chain_not : ∀ (k i : Nat) (n : Int), n ≤ i + k → chain (k + 1) i n
  | 0, i, n, h => fun hi => by
    rw [iLt_t] at hi
    have : (i : Int) < n := hi
    omega
  | k + 1, i, n, h => fun _ => chain_not k (i + 1) n (by omega)
def sRefUp : PSpec := pspec csrRows [.v u64, .v .bo, .v i64] (.one W) (fun x => [(x.2.2.1 : Int) ≤ 66]) fun x => refUp x.1 x.2.1 x.2.2.1
theorem f83_s : PSound Try.prog csrRows 83 sRefUp :=
  pure_sound (fn := Try.f83) (l0.ctx 67) csr_mix rfl (fn_is (by kernel_rfl) (by kernel_rfl)) (fun x => by kernel_rfl) fun x hx => T.ok_req (by
    rw [show (runT (mkCtx csrRows [] [] 67) Try.f83 [.v u64, .v .bo, .v i64] (.one W) x).req = ((x.2.1 = true → chain 67 0 x.2.2.1) ∧ (x.2.1 = false → chain 67 0 x.2.2.1)) by kernel_rfl]
    have h0 : (x.2.2.1 : Int) ≤ 66 := hx _ (List.mem_singleton.2 rfl)
    exact ⟨fun _ => chain_not 66 0 _ (by simpa using h0), fun _ => chain_not 66 0 _ (by simpa using h0)⟩)

end Go.Mir

namespace Go.Mir
open Go.Proofs

set_option maxRecDepth 100000

noncomputable def ps1 : List (Nat × PSpec) := [(85, sTruth), (87, sSigned), (88, sUp), (89, sPlus)]
theorem l2 : ListsOk Try.prog csrRows ps1 [] := .consP (.consP (.consP (.consP l0 f89_s) f88_s) f87_s) f85_s
noncomputable def ss1 : List (Nat × Spec) := [(86, inl (mkCtx csrRows ps1 [] 0) Try.f86)]
theorem f86_s : SSound Try.prog csrRows 86 (inl (mkCtx csrRows ps1 [] 0) Try.f86) := inl_sound (l2.ctx 0) csr_mix (fn_is (by kernel_rfl) (by kernel_rfl))
theorem l3 : ListsOk Try.prog csrRows ps1 ss1 := .consS l2 f86_s

/- bounds.Of -/
def bT (c : Cap) : Int := iOr .i64 c.t (iShl .i64 (iAnd .i64 (iAdd .i64 (iAdd .i64 (iShr .i64 c.b 12) (truth (iLt c.t (iAnd .i64 c.b 4095)))) (truth c.big)) 3) 12)
def bCorner (c : Cap) : Int := iShl .i64 (iAnd .i64 (iSub .i64 (iShr .i64 c.b 11) 1) 7) 11
def bMiddle (c : Cap) : Int := iAnd .i64 (iCv .i64 (iShr .u64 c.addr c.e)) 16383
def bStep (c : Cap) (m : Int) : Int := iSub .i64 (truth (iLt m (bCorner c))) (truth (iLt (bMiddle c) (bCorner c)))
def bEnd (c : Cap) (upper m : Int) : Wd := plus (upW (signed (iAdd .i64 upper (bStep c m))) (iAdd .i64 c.e 14)) (upW (0, iCv .u64 m, ()) c.e)
def bFin (c : Cap) (f t : Wd) : Rng :=
  bif iLt c.e 51 then
    bif iLt 1 (iAnd .u64 (iSub .u64 (iAdd .u64 (iShl .u64 t.1 1) (iShr .u64 t.2.1 63)) (iShr .u64 f.2.1 63)) 3) then ⟨f.2.1, t.2.1, iEq (iXor .u64 t.1 1) 1⟩ else ⟨f.2.1, t.2.1, iEq t.1 1⟩
  else ⟨f.2.1, t.2.1, iEq t.1 1⟩
def bUpper (c : Cap) : Int := iCv .i64 (iShr .u64 c.addr (iAdd .i64 c.e 14))
def bOf (c : Cap) : Rng :=
  bif iLt (iAdd .i64 c.e 14) 64 then bFin c (bEnd c (bUpper c) c.b) (bEnd c (bUpper c) (bT c)) else bFin c (bEnd c 0 c.b) (bEnd c 0 (bT c))
theorem f84_val (c : Cap) : (runT (mkCtx csrRows ps1 ss1 0) Try.f84 [.v .cap] (.one .rng) (c, ())).part Prod.fst = bOf c := by kernel_rfl

def endOk (c : Cap) (upper m : Int) : Prop := addOk (upW (signed (iAdd .i64 upper (bStep c m))) (iAdd .i64 c.e 14)).2.1 (upW (0, iCv .u64 m, ()) c.e).2.1 0
def ofReq (c : Cap) (u : Int) : Prop := ((0 : Int) ≤ iAdd .i64 c.e 14) ∧ ((0 : Int) ≤ c.e) ∧ endOk c u c.b ∧ ((0 : Int) ≤ iAdd .i64 c.e 14) ∧ ((0 : Int) ≤ c.e) ∧ endOk c u (bT c)
theorem f84_req (c : Cap) : (runT (mkCtx csrRows ps1 ss1 0) Try.f84 [.v .cap] (.one .rng) (c, ())).req =
    (nneg c.e ∧ ((iLt (iAdd .i64 c.e 14) 64 = true → nneg (iAdd .i64 c.e 14) ∧ ofReq c (bUpper c)) ∧ (iLt (iAdd .i64 c.e 14) 64 = false → ofReq c 0))) := by kernel_rfl

theorem upW_lo {a : Wd} (h : inU a.2.1) (n : Int) : inU (upW a n).2.1 := by
  unfold upW
  cases iEq n 0 <;> cases iLe 65 n <;> cases iEq n 64 <;> simp only [cond_true, cond_false] <;> first | exact h | exact inU_shl _ _ | exact ⟨by decide, by decide⟩

theorem endOk_all (c : Cap) (u m : Int) : endOk c u m := by
  unfold endOk
  rw [addOk_iff]
  have h1 := upW_lo (a := signed (iAdd .i64 u (bStep c m))) (inU_cv _) (iAdd .i64 c.e 14)
  have h2 := upW_lo (a := (0, iCv .u64 m, ())) (inU_cv _) c.e
  exact ⟨h1.1, h2.1, by decide, by decide⟩

/-- A capability whose exponent is one. -/
def eOk (c : Cap) : Prop := 0 ≤ c.e ∧ c.e ≤ 52
theorem ofReq_all {c : Cap} (h : eOk c) (u : Int) : ofReq c u := by
  unfold eOk at h
  have h1 : iAdd .i64 c.e 14 = c.e + 14 := iAdd_i (by omega) (by omega)
  unfold ofReq
  rw [h1]
  exact ⟨by omega, h.1, endOk_all _ _ _, by omega, h.1, endOk_all _ _ _⟩

def sOf : PSpec := pspec csrRows [.v .cap] (.one .rng) (fun x => [eOk x.1]) fun x => bOf x.1
theorem f84_s : PSound Try.prog csrRows 84 sOf :=
  pure_sound (fn := Try.f84) (l3.ctx 0) csr_mix rfl (fn_is (by kernel_rfl) (by kernel_rfl)) (fun x => f84_val x.1) fun x hx => T.ok_req (by
    have h := hx _ (List.mem_singleton.2 rfl)
    have h1 : iAdd .i64 x.1.e 14 = x.1.e + 14 := by unfold eOk at h; exact iAdd_i (by omega) (by omega)
    refine cast (f84_req x.1).symm ⟨nneg_iff.2 h.1, fun _ => ⟨nneg_iff.2 ?_, ofReq_all h _⟩, fun _ => ofReq_all h _⟩
    rw [h1]; unfold eOk at h; omega)

end Go.Mir

namespace Go.Mir
open Go.Proofs

set_option maxRecDepth 100000

noncomputable def ps2 : List (Nat × PSpec) := [(80, sTruth), (81, sPart), (82, sAdd), (83, sRefUp)]
theorem l4 : ListsOk Try.prog csrRows ps2 [] := .consP (.consP (.consP (.consP l0 f83_s) f82_s) f81_s) f80_s

def rT (c : Cap) : Int := iAdd .i64 c.t (iMul .i64 (iRem (iAdd .i64 (iAdd .i64 (iQuo .i64 c.b 4096) (truth (iLt c.t (iRem c.b 4096)))) (truth c.big)) 4) 4096)
def rCorner (c : Cap) : Int := iMul .i64 (iRem (iAdd .i64 (iQuo .i64 c.b 2048) 7) 8) 2048
def rMiddle (c : Cap) : Int := iCv .i64 (iRem (iShr .u64 c.addr (iCv .u64 c.e)) 16384)
def rStep (c : Cap) (m : Int) : Int := iSub .i64 (truth (iLt m (rCorner c))) (truth (iLt (rMiddle c) (rCorner c)))
def rEnd (c : Cap) (a m : Int) : Wd :=
  refAdd (refUp (refPart a (rStep c m)).1 (refPart a (rStep c m)).2.1 (iAdd .i64 c.e 14)) (refUp (iCv .u64 m) false c.e)
def rFin (c : Cap) (f t : Wd) : Rng :=
  bif iLt c.e 51 then
    bif iLt 1 (iRem (iSub .u64 (iAdd .u64 (iAdd .u64 (iMul .u64 2 t.1) (iShr .u64 t.2.1 63)) 4) (iShr .u64 f.2.1 63)) 4) then ⟨f.2.1, t.2.1, iEq (iSub .u64 1 t.1) 1⟩ else ⟨f.2.1, t.2.1, iEq t.1 1⟩
  else ⟨f.2.1, t.2.1, iEq t.1 1⟩
def rUpper (c : Cap) : Int := iShr .u64 c.addr (iCv .u64 (iAdd .i64 c.e 14))
def rOf (c : Cap) : Rng :=
  bif iLt (iAdd .i64 c.e 14) 64 then rFin c (rEnd c (rUpper c) c.b) (rEnd c (rUpper c) (rT c)) else rFin c (rEnd c 0 c.b) (rEnd c 0 (rT c))
theorem f76_val (c : Cap) : (runT (mkCtx csrRows ps2 [] 0) Try.f76 [.v .cap] (.one .rng) (c, ())).part Prod.fst = rOf c := by kernel_rfl

def rReq (c : Cap) : Prop := (iAdd .i64 c.e 14 ≤ 66) ∧ (c.e ≤ 66) ∧ (iAdd .i64 c.e 14 ≤ 66) ∧ (c.e ≤ 66)
theorem f76_req (c : Cap) : (runT (mkCtx csrRows ps2 [] 0) Try.f76 [.v .cap] (.one .rng) (c, ())).req =
    (nneg (iCv .u64 c.e) ∧ ((iLt (iAdd .i64 c.e 14) 64 = true → nneg (iCv .u64 (iAdd .i64 c.e 14)) ∧ rReq c) ∧ (iLt (iAdd .i64 c.e 14) 64 = false → rReq c))) := by kernel_rfl

def sROf : PSpec := pspec csrRows [.v .cap] (.one .rng) (fun x => [eOk x.1]) fun x => rOf x.1
theorem f76_s : PSound Try.prog csrRows 76 sROf :=
  pure_sound (fn := Try.f76) (l4.ctx 0) csr_mix rfl (fn_is (by kernel_rfl) (by kernel_rfl)) (fun x => f76_val x.1) fun x hx => T.ok_req (by
    have h := hx _ (List.mem_singleton.2 rfl)
    have h1 : iAdd .i64 x.1.e 14 = x.1.e + 14 := by unfold eOk at h; exact iAdd_i (by omega) (by omega)
    have h2 : rReq x.1 := by unfold rReq; rw [h1]; unfold eOk at h; omega
    exact cast (f76_req x.1).symm ⟨nneg_cv _, fun _ => ⟨nneg_cv _, h2⟩, fun _ => h2⟩)

end Go.Mir

namespace Go.Mir
open Go.Proofs

set_option maxRecDepth 100000

noncomputable def ps3 : List (Nat × PSpec) := [(84, sOf), (76, sROf)]
theorem l5 : ListsOk Try.prog csrRows ps3 [] := .consP (.consP l0 f76_s) f84_s

def bFits (c : Cap) (at_ : Int) : Bool := rngEq (bOf { c with addr := at_ }) (bOf c)
def sFits : PSpec := pspec csrRows [.v .cap, .v u64] (.one .bo) (fun x => [eOk x.1]) fun x => bFits x.1 x.2.1
theorem f78_s : PSound Try.prog csrRows 78 sFits :=
  pure_sound (fn := Try.f78) (l5.ctx 0) csr_mix rfl (fn_is (by kernel_rfl) (by kernel_rfl)) (fun x => by kernel_rfl) fun x hx => T.ok_req (by
    have h := hx _ (List.mem_singleton.2 rfl)
    rw [show (runT (mkCtx csrRows ps3 [] 0) Try.f78 [.v .cap, .v u64] (.one .bo) x).req = (eOk x.1 ∧ eOk { x.1 with addr := x.2.1 }) by kernel_rfl]
    exact ⟨h, h⟩)

def rFits (c : Cap) (at_ : Int) : Bool := rngEq (rOf c) (rOf { c with addr := at_ })
def sRFits : PSpec := pspec csrRows [.v .cap, .v u64] (.one .bo) (fun x => [eOk x.1]) fun x => rFits x.1 x.2.1
theorem f67_s : PSound Try.prog csrRows 67 sRFits :=
  pure_sound (fn := Try.f67) (l5.ctx 0) csr_mix rfl (fn_is (by kernel_rfl) (by kernel_rfl)) (fun x => by kernel_rfl) fun x hx => T.ok_req (by
    have h := hx _ (List.mem_singleton.2 rfl)
    rw [show (runT (mkCtx csrRows ps3 [] 0) Try.f67 [.v .cap, .v u64] (.one .bo) x).req = (eOk x.1 ∧ eOk { x.1 with addr := x.2.1 }) by kernel_rfl]
    exact ⟨h, h⟩)

def sealed (c : Cap) : Bool := bNot (iEq c.type 262143)
def sSealed : PSpec := pspec csrRows [.v .cap] (.one .bo) (fun _ => []) fun x => sealed x.1
theorem f66_s : PSound Try.prog csrRows 66 sSealed :=
  pure_sound (fn := Try.f66) (l0.ctx 0) csr_mix rfl (fn_is (by kernel_rfl) (by kernel_rfl)) (fun x => by kernel_rfl) fun x _ => T.req_clean (by kernel_rfl)
theorem f77_s : PSound Try.prog csrRows 77 sSealed :=
  pure_sound (fn := Try.f77) (l0.ctx 0) csr_mix rfl (fn_is (by kernel_rfl) (by kernel_rfl)) (fun x => by kernel_rfl) fun x _ => T.req_clean (by kernel_rfl)

def withTag (c : Cap) (t : Bool) : Cap := { c with tag := t }
def sWith : PSpec := pspec csrRows [.v .cap, .v .bo] (.one .cap) (fun _ => []) fun x => withTag x.1 x.2.1
theorem f68_s : PSound Try.prog csrRows 68 sWith :=
  pure_sound (fn := Try.f68) (l0.ctx 0) csr_mix rfl (fn_is (by kernel_rfl) (by kernel_rfl)) (fun x => by kernel_rfl) fun x _ => T.req_clean (by kernel_rfl)

def keep (c : Cap) (t : Bool) : Cap := bif c.tag then { c with tag := t } else { c with tag := false }
def sKeep : PSpec := pspec csrRows [.v .cap, .v .bo] (.one .cap) (fun _ => []) fun x => keep x.1 x.2.1
theorem f79_s : PSound Try.prog csrRows 79 sKeep :=
  pure_sound (fn := Try.f79) (l0.ctx 0) csr_mix rfl (fn_is (by kernel_rfl) (by kernel_rfl)) (fun x => by kernel_rfl) fun x _ => T.req_clean (by kernel_rfl)

noncomputable def ps4 : List (Nat × PSpec) := [(77, sSealed), (78, sFits), (79, sKeep), (66, sSealed), (67, sRFits), (68, sWith)]
theorem l6 : ListsOk Try.prog csrRows ps4 [] := .consP (.consP (.consP (.consP (.consP (.consP l0 f68_s) f67_s) f66_s) f79_s) f78_s) f77_s

def bMove (c : Cap) (a : Int) : Cap := bif bNot (sealed c) then keep { c with addr := a } (bFits c a) else keep { c with addr := a } false
def sMove : PSpec := pspec csrRows [.v .cap, .v u64] (.one .cap) (fun x => [eOk x.1]) fun x => bMove x.1 x.2.1
theorem f71_s : PSound Try.prog csrRows 71 sMove :=
  pure_sound (fn := Try.f71) (l6.ctx 0) csr_mix rfl (fn_is (by kernel_rfl) (by kernel_rfl)) (fun x => by kernel_rfl) fun x hx => T.ok_req (by
    have h := hx _ (List.mem_singleton.2 rfl)
    rw [show (runT (mkCtx csrRows ps4 [] 0) Try.f71 [.v .cap, .v u64] (.one .cap) x).req = (bNot (sealed x.1) = true → eOk x.1) by kernel_rfl]
    exact fun _ => h)

def rMove (c : Cap) (a : Int) : Cap :=
  bif c.tag then bif bNot (sealed c) then { c with tag := rFits c a, addr := a } else { c with tag := false, addr := a } else { c with tag := false, addr := a }
def sRMove : PSpec := pspec csrRows [.v .cap, .v u64] (.one .cap) (fun x => [eOk x.1]) fun x => rMove x.1 x.2.1
theorem f29_s : PSound Try.prog csrRows 29 sRMove :=
  pure_sound (fn := Try.f29) (l6.ctx 0) csr_mix rfl (fn_is (by kernel_rfl) (by kernel_rfl)) (fun x => by kernel_rfl) fun x hx => T.ok_req (by
    have h := hx _ (List.mem_singleton.2 rfl)
    rw [show (runT (mkCtx csrRows ps4 [] 0) Try.f29 [.v .cap, .v u64] (.one .cap) x).req = (x.1.tag = true → bNot (sealed x.1) = true → eOk x.1) by kernel_rfl]
    exact fun _ _ => h)

end Go.Mir

namespace Go.Mir
open Go.Proofs

set_option maxRecDepth 100000

def within (n h : Int) : Bool := bif iLe 0 n then iLe n h else false
def sWithin : PSpec := pspec csrRows [.v i64, .v i64] (.one .bo) (fun _ => []) fun x => within x.1 x.2.1
theorem f30_s : PSound Try.prog csrRows 30 sWithin :=
  pure_sound (fn := Try.f30) (l0.ctx 0) csr_mix rfl (fn_is (by kernel_rfl) (by kernel_rfl)) (fun x => by kernel_rfl) fun x _ => T.req_clean (by kernel_rfl)

def number (n : Int) : Cap := ⟨false, 0, 262143, 0, 52, 0, 0, true, n⟩
def sNumber : PSpec := pspec csrRows [.v u64] (.one .cap) (fun _ => []) fun x => number x.1
theorem f21_s : PSound Try.prog csrRows 21 sNumber :=
  pure_sound (fn := Try.f21) (l0.ctx 0) csr_mix rfl (fn_is (by kernel_rfl) (by kernel_rfl)) (fun x => by kernel_rfl) fun x _ => T.req_clean (by kernel_rfl)

noncomputable def ps5 : List (Nat × PSpec) := [(30, sWithin), (21, sNumber)]
theorem l7 : ListsOk Try.prog csrRows ps5 [] := .consP (.consP l0 f21_s) f30_s

def right (c : Cap) : Bool :=
  bif bNot (within c.perms 65535) then false else bif bNot (within c.type 262143) then false else bif bNot (within c.mode 1) then false else
  bif bNot (within c.b 16383) then false else bif bNot (within c.t 4095) then false else
  bif bNot c.big then iEq c.e 0 else bif within c.e 52 then bif iEq (iAnd .i64 c.b 7) 0 then iEq (iAnd .i64 c.t 7) 0 else false else false
def sRight : PSpec := pspec csrRows [.v .cap] (.one .bo) (fun _ => []) fun x => right x.1
theorem f20_s : PSound Try.prog csrRows 20 sRight :=
  pure_sound (fn := Try.f20) (l7.ctx 6) csr_mix rfl (fn_is (by kernel_rfl) (by kernel_rfl)) (fun x => by kernel_rfl) fun x _ => T.req_clean (by kernel_rfl)

def root (m a : Int) : Cap := bif iEq m 1 then ⟨true, 65535, 262143, 1, 52, 0, 0, true, a⟩ else ⟨true, 65535, 262143, 0, 52, 0, 0, true, a⟩
def sRoot : PSpec := pspec csrRows [.v i64, .v u64] (.one .cap) (fun _ => []) fun x => root x.1 x.2.1
theorem f16_s : PSound Try.prog csrRows 16 sRoot :=
  pure_sound (fn := Try.f16) (l7.ctx 6) csr_mix rfl (fn_is (by kernel_rfl) (by kernel_rfl)) (fun x => by kernel_rfl) fun x _ => T.req_clean (by kernel_rfl)

end Go.Mir

namespace Go.Mir
open Go.Proofs

set_option maxRecDepth 100000

noncomputable def ps6 : List (Nat × PSpec) := [(20, sRight), (21, sNumber)]
theorem l8 : ListsOk Try.prog csrRows ps6 [] := .consP (.consP l0 f21_s) f20_s

def rightXs : Nat → Nat → Hart → Bool → Bool
  | 0, _, _, r => r
  | k + 1, i, h, r => bif bNot (right (h.x i)) then false else rightXs k (i + 1) h r
def rightCs : List Cap → Bool → Bool
  | [], r => r
  | c :: l, r => bif bNot (right c) then false else rightCs l r
def hartRight (h : Hart) : Bool :=
  bif bNot (right (h.x 0)) then false else bif bNot (capEq (h.x 0) (number 0)) then false else
  rightXs 31 1 h (rightCs [h.pcc, h.ddc, h.stcc, h.stdc, h.sscr, h.sepcc, h.mtcc, h.mtdc, h.mscr, h.mepcc] (bif iEq h.priv 0 then true else bif iEq h.priv 1 then true else iEq h.priv 3))
def sHartRight : PSpec := pspec csrRows [.v .hart] (.one .bo) (fun _ => []) fun x => hartRight x.1
theorem f8_s : PSound Try.prog csrRows 8 sHartRight :=
  pure_sound (fn := Try.f8) (l8.ctx 33) csr_mix rfl (fn_is (by kernel_rfl) (by kernel_rfl)) (fun x => by kernel_rfl) fun x _ => T.req_clean (by kernel_rfl)

end Go.Mir

namespace Go.Mir
open Go.Proofs

set_option maxRecDepth 100000

def readOnly (no : Int) : Bool := iEq (iAnd .i64 (iShr .i64 no 10) 3) 3
def sReadOnly : PSpec := pspec csrRows [.v i64] (.one .bo) (fun _ => []) fun x => readOnly x.1
theorem f23_s : PSound Try.prog csrRows 23 sReadOnly :=
  pure_sound (fn := Try.f23) (l0.ctx 0) csr_mix rfl (fn_is (by kernel_rfl) (by kernel_rfl)) (fun x => by kernel_rfl) fun x _ => T.req_clean (by kernel_rfl)

def rBit (v n : Int) : Bool := iEq (iRem (iShr .u64 v (iCv .u64 n)) 2) 1
def sBit : PSpec := pspec csrRows [.v u64, .v i64] (.one .bo) (fun _ => []) fun x => rBit x.1 x.2.1
theorem f26_s : PSound Try.prog csrRows 26 sBit :=
  pure_sound (fn := Try.f26) (l0.ctx 0) csr_mix rfl (fn_is (by kernel_rfl) (by kernel_rfl)) (fun x => by kernel_rfl) fun x _ => T.ok_req (by
    rw [show (runT (mkCtx csrRows [] [] 0) Try.f26 [.v u64, .v i64] (.one .bo) x).req = nneg (iCv .u64 x.2.1) by kernel_rfl]
    exact nneg_cv _)

def sIllegal : PSpec := pspec csrRows [] (.one .trap) (fun _ => []) fun _ => ⟨true, 2, 0⟩
theorem f27_s : PSound Try.prog csrRows 27 sIllegal :=
  pure_sound (fn := Try.f27) (l0.ctx 0) csr_mix rfl (fn_is (by kernel_rfl) (by kernel_rfl)) (fun x => by kernel_rfl) fun x _ => T.req_clean (by kernel_rfl)

def rLay (was v bits : Int) : Int := iAdd .u64 (iSub .u64 was (iAnd .u64 was bits)) (iAnd .u64 v bits)
def sLay : PSpec := pspec csrRows [.v u64, .v u64, .v u64] (.one u64) (fun _ => []) fun x => rLay x.1 x.2.1 x.2.2.1
theorem f28_s : PSound Try.prog csrRows 28 sLay :=
  pure_sound (fn := Try.f28) (l0.ctx 0) csr_mix rfl (fn_is (by kernel_rfl) (by kernel_rfl)) (fun x => by kernel_rfl) fun x _ => T.req_clean (by kernel_rfl)

def isIn : List Int → Int → Bool → Bool
  | [], _, r => r
  | a :: l, n, r => bif iEq a n then true else isIn l n r
def there (n : Int) : Bool :=
  isIn [0x100, 0x104, 0x105, 0x106, 0x140, 0x141, 0x142, 0x143, 0x144, 0x180, 0x300, 0x301, 0x302, 0x303, 0x304, 0x305, 0x306, 0x340, 0x341, 0x342, 0x343, 0x344, 0xB00, 0xB02, 0xC00, 0xC01, 0xC02] n
    (bif iLe 0x3A0 n then bif iLe n 0x3EF then true else bif iLe 0xF11 n then iLe n 0xF14 else false else bif iLe 0xF11 n then iLe n 0xF14 else false)
def sThere : PSpec := pspec csrRows [.v i64] (.one .bo) (fun _ => []) fun x => there x.1
theorem f25_s : PSound Try.prog csrRows 25 sThere :=
  pure_sound (fn := Try.f25) (l0.ctx 33) csr_mix rfl (fn_is (by kernel_rfl) (by kernel_rfl)) (fun x => by kernel_rfl) fun x _ => T.req_clean (by kernel_rfl)

end Go.Mir

namespace Go.Mir
open Go.Proofs

set_option maxRecDepth 100000

def cBit (no : Int) : Int := iShl .u64 1 (iAnd .i64 no 3)
def counted (h : Hart) (no : Int) : Bool :=
  bif iLt h.priv 3 then bif iEq (iAnd .u64 h.mcounteren (cBit no)) 0 then true else bif iEq h.priv 0 then iEq (iAnd .u64 h.scounteren (cBit no)) 0 else false
  else bif iEq h.priv 0 then iEq (iAnd .u64 h.scounteren (cBit no)) 0 else false
def sCounted : PSpec := pspec csrRows [.p .hart, .v i64] (.one .bo) (fun _ => []) fun x => counted x.1 x.2.1
theorem f24_s : PSound Try.prog csrRows 24 sCounted :=
  see_sound (fn := Try.f24) (l0.ctx 0) csr_mix (fn_is (by kernel_rfl) (by kernel_rfl)) (fun x => by kernel_rfl) (fun x => by kernel_rfl) fun x _ => T.ok_req (by
    rw [show (runT (mkCtx csrRows [] [] 0) Try.f24 [.p .hart, .v i64] (.one .bo) x).req = nneg (iAnd .i64 x.2.1 3) by kernel_rfl]
    exact nneg_iff.2 (iAnd_i_bounds x.2.1 (m := 3) (by decide)).1)

end Go.Mir

namespace Go.Mir
open Go.Proofs

set_option maxRecDepth 100000

def delegated (h : Hart) : Int := iAnd .u64 h.mideleg 546
def sDelegated : PSpec := pspec csrRows [.p .hart] (.one u64) (fun _ => []) fun x => delegated x.1
theorem f35_s : PSound Try.prog csrRows 35 sDelegated :=
  see_clean (fn := Try.f35) (l0.ctx 0) csr_mix (fn_is (by kernel_rfl) (by kernel_rfl)) (fun x => by kernel_rfl) (fun x => by kernel_rfl) fun x => by kernel_rfl
def mipV (h : Hart) (w : Wd) : Int := iOr .u64 (iAnd .u64 h.mip 546) (iAnd .u64 w.2.1 2730)
def sMip : PSpec := pspec csrRows [.p .hart, .v W] (.one u64) (fun _ => []) fun x => mipV x.1 x.2.1
theorem f46_s : PSound Try.prog csrRows 46 sMip :=
  see_clean (fn := Try.f46) (l0.ctx 0) csr_mix (fn_is (by kernel_rfl) (by kernel_rfl)) (fun x => by kernel_rfl) (fun x => by kernel_rfl) fun x => by kernel_rfl
noncomputable abbrev ctxZ : Ctx := mkCtx csrRows [] [] 0

theorem f38_s : PSound Try.prog csrRows 38 (ptS ctxZ Try.f38) := ptS_sound (l0.ctx 0) csr_mix (fn_is (by kernel_rfl) (by kernel_rfl))
theorem f40_s : PSound Try.prog csrRows 40 (ptS ctxZ Try.f40) := ptS_sound (l0.ctx 0) csr_mix (fn_is (by kernel_rfl) (by kernel_rfl))
theorem f41_s : PSound Try.prog csrRows 41 (ptS ctxZ Try.f41) := ptS_sound (l0.ctx 0) csr_mix (fn_is (by kernel_rfl) (by kernel_rfl))
theorem f42_s : PSound Try.prog csrRows 42 (ptS ctxZ Try.f42) := ptS_sound (l0.ctx 0) csr_mix (fn_is (by kernel_rfl) (by kernel_rfl))
theorem f43_s : PSound Try.prog csrRows 43 (ptS ctxZ Try.f43) := ptS_sound (l0.ctx 0) csr_mix (fn_is (by kernel_rfl) (by kernel_rfl))
theorem f44_s : PSound Try.prog csrRows 44 (ptS ctxZ Try.f44) := ptS_sound (l0.ctx 0) csr_mix (fn_is (by kernel_rfl) (by kernel_rfl))
theorem f53_s : PSound Try.prog csrRows 53 (ptS ctxZ Try.f53) := ptS_sound (l0.ctx 0) csr_mix (fn_is (by kernel_rfl) (by kernel_rfl))
theorem f54_s : PSound Try.prog csrRows 54 (ptS ctxZ Try.f54) := ptS_sound (l0.ctx 0) csr_mix (fn_is (by kernel_rfl) (by kernel_rfl))
theorem f55_s : PSound Try.prog csrRows 55 (ptS ctxZ Try.f55) := ptS_sound (l0.ctx 0) csr_mix (fn_is (by kernel_rfl) (by kernel_rfl))
theorem f56_s : PSound Try.prog csrRows 56 (ptS ctxZ Try.f56) := ptS_sound (l0.ctx 0) csr_mix (fn_is (by kernel_rfl) (by kernel_rfl))
theorem f57_s : PSound Try.prog csrRows 57 (ptS ctxZ Try.f57) := ptS_sound (l0.ctx 0) csr_mix (fn_is (by kernel_rfl) (by kernel_rfl))
theorem f58_s : PSound Try.prog csrRows 58 (ptS ctxZ Try.f58) := ptS_sound (l0.ctx 0) csr_mix (fn_is (by kernel_rfl) (by kernel_rfl))
theorem f59_s : PSound Try.prog csrRows 59 (ptS ctxZ Try.f59) := ptS_sound (l0.ctx 0) csr_mix (fn_is (by kernel_rfl) (by kernel_rfl))
theorem f60_s : PSound Try.prog csrRows 60 (ptS ctxZ Try.f60) := ptS_sound (l0.ctx 0) csr_mix (fn_is (by kernel_rfl) (by kernel_rfl))
theorem f61_s : PSound Try.prog csrRows 61 (ptS ctxZ Try.f61) := ptS_sound (l0.ctx 0) csr_mix (fn_is (by kernel_rfl) (by kernel_rfl))
theorem f63_s : PSound Try.prog csrRows 63 (ptS ctxZ Try.f63) := ptS_sound (l0.ctx 0) csr_mix (fn_is (by kernel_rfl) (by kernel_rfl))
theorem f64_s : PSound Try.prog csrRows 64 (ptS ctxZ Try.f64) := ptS_sound (l0.ctx 0) csr_mix (fn_is (by kernel_rfl) (by kernel_rfl))
noncomputable def psC : List (Nat × PSpec) := [(71, sMove), (35, sDelegated), (46, sMip), (38, ptS ctxZ Try.f38), (40, ptS ctxZ Try.f40), (41, ptS ctxZ Try.f41), (42, ptS ctxZ Try.f42), (43, ptS ctxZ Try.f43), (44, ptS ctxZ Try.f44), (53, ptS ctxZ Try.f53), (54, ptS ctxZ Try.f54), (55, ptS ctxZ Try.f55), (56, ptS ctxZ Try.f56), (57, ptS ctxZ Try.f57), (58, ptS ctxZ Try.f58), (59, ptS ctxZ Try.f59), (60, ptS ctxZ Try.f60), (61, ptS ctxZ Try.f61), (63, ptS ctxZ Try.f63), (64, ptS ctxZ Try.f64)]
theorem lC : ListsOk Try.prog csrRows psC [] := .consP (.consP (.consP (.consP (.consP (.consP (.consP (.consP (.consP (.consP (.consP (.consP (.consP (.consP (.consP (.consP (.consP (.consP (.consP (.consP l0 f64_s) f63_s) f61_s) f60_s) f59_s) f58_s) f57_s) f56_s) f55_s) f54_s) f53_s) f44_s) f43_s) f42_s) f41_s) f40_s) f38_s) f46_s) f35_s) f71_s
noncomputable abbrev ctx0 : Ctx := mkCtx csrRows psC [] 0

theorem i31_s : SSound Try.prog csrRows 31 (inl ctx0 Try.f31) := inl_sound (lC.ctx 0) csr_mix (fn_is (by kernel_rfl) (by kernel_rfl))
theorem i33_s : SSound Try.prog csrRows 33 (inl ctx0 Try.f33) := inl_sound (lC.ctx 0) csr_mix (fn_is (by kernel_rfl) (by kernel_rfl))
theorem i37_s : SSound Try.prog csrRows 37 (inl ctx0 Try.f37) := inl_sound (lC.ctx 0) csr_mix (fn_is (by kernel_rfl) (by kernel_rfl))
theorem i39_s : SSound Try.prog csrRows 39 (inl ctx0 Try.f39) := inl_sound (lC.ctx 0) csr_mix (fn_is (by kernel_rfl) (by kernel_rfl))
theorem i48_s : SSound Try.prog csrRows 48 (inl ctx0 Try.f48) := inl_sound (lC.ctx 0) csr_mix (fn_is (by kernel_rfl) (by kernel_rfl))
theorem i49_s : SSound Try.prog csrRows 49 (inl ctx0 Try.f49) := inl_sound (lC.ctx 0) csr_mix (fn_is (by kernel_rfl) (by kernel_rfl))
theorem i50_s : SSound Try.prog csrRows 50 (inl ctx0 Try.f50) := inl_sound (lC.ctx 0) csr_mix (fn_is (by kernel_rfl) (by kernel_rfl))
theorem i51_s : SSound Try.prog csrRows 51 (inl ctx0 Try.f51) := inl_sound (lC.ctx 0) csr_mix (fn_is (by kernel_rfl) (by kernel_rfl))
theorem i52_s : SSound Try.prog csrRows 52 (inl ctx0 Try.f52) := inl_sound (lC.ctx 0) csr_mix (fn_is (by kernel_rfl) (by kernel_rfl))
theorem i62_s : SSound Try.prog csrRows 62 (inl ctx0 Try.f62) := inl_sound (lC.ctx 0) csr_mix (fn_is (by kernel_rfl) (by kernel_rfl))
theorem i65_s : SSound Try.prog csrRows 65 (inl ctx0 Try.f65) := inl_sound (lC.ctx 0) csr_mix (fn_is (by kernel_rfl) (by kernel_rfl))
theorem i74_s : SSound Try.prog csrRows 74 (inl ctx0 Try.f74) := inl_sound (lC.ctx 0) csr_mix (fn_is (by kernel_rfl) (by kernel_rfl))
theorem i75_s : SSound Try.prog csrRows 75 (inl ctx0 Try.f75) := inl_sound (lC.ctx 0) csr_mix (fn_is (by kernel_rfl) (by kernel_rfl))
noncomputable def ssA : List (Nat × Spec) := [(31, inl ctx0 Try.f31), (33, inl ctx0 Try.f33), (37, inl ctx0 Try.f37), (39, inl ctx0 Try.f39), (48, inl ctx0 Try.f48), (49, inl ctx0 Try.f49), (50, inl ctx0 Try.f50), (51, inl ctx0 Try.f51), (52, inl ctx0 Try.f52), (62, inl ctx0 Try.f62), (65, inl ctx0 Try.f65), (74, inl ctx0 Try.f74), (75, inl ctx0 Try.f75)]
theorem lA : ListsOk Try.prog csrRows psC ssA := .consS (.consS (.consS (.consS (.consS (.consS (.consS (.consS (.consS (.consS (.consS (.consS (.consS lC i75_s) i74_s) i65_s) i62_s) i52_s) i51_s) i50_s) i49_s) i48_s) i39_s) i37_s) i33_s) i31_s
noncomputable abbrev ctxA : Ctx := mkCtx csrRows psC ssA 0
theorem i32_s : SSound Try.prog csrRows 32 (inl ctxA Try.f32) := inl_sound (lA.ctx 0) csr_mix (fn_is (by kernel_rfl) (by kernel_rfl))
theorem i34_s : SSound Try.prog csrRows 34 (inl ctxA Try.f34) := inl_sound (lA.ctx 0) csr_mix (fn_is (by kernel_rfl) (by kernel_rfl))
theorem i36_s : SSound Try.prog csrRows 36 (inl ctxA Try.f36) := inl_sound (lA.ctx 0) csr_mix (fn_is (by kernel_rfl) (by kernel_rfl))
theorem i45_s : SSound Try.prog csrRows 45 (inl ctxA Try.f45) := inl_sound (lA.ctx 0) csr_mix (fn_is (by kernel_rfl) (by kernel_rfl))
theorem i47_s : SSound Try.prog csrRows 47 (inl ctxA Try.f47) := inl_sound (lA.ctx 0) csr_mix (fn_is (by kernel_rfl) (by kernel_rfl))
theorem i69_s : SSound Try.prog csrRows 69 (inl ctxA Try.f69) := inl_sound (lA.ctx 0) csr_mix (fn_is (by kernel_rfl) (by kernel_rfl))
theorem i70_s : SSound Try.prog csrRows 70 (inl ctxA Try.f70) := inl_sound (lA.ctx 0) csr_mix (fn_is (by kernel_rfl) (by kernel_rfl))
theorem i72_s : SSound Try.prog csrRows 72 (inl ctxA Try.f72) := inl_sound (lA.ctx 0) csr_mix (fn_is (by kernel_rfl) (by kernel_rfl))
theorem i73_s : SSound Try.prog csrRows 73 (inl ctxA Try.f73) := inl_sound (lA.ctx 0) csr_mix (fn_is (by kernel_rfl) (by kernel_rfl))
theorem i22_s : SSound Try.prog csrRows 22 (inl ctxA Try.f22) := inl_sound (lA.ctx 0) csr_mix (fn_is (by kernel_rfl) (by kernel_rfl))
noncomputable def ssB : List (Nat × Spec) := [(32, inl ctxA Try.f32), (34, inl ctxA Try.f34), (36, inl ctxA Try.f36), (45, inl ctxA Try.f45), (47, inl ctxA Try.f47), (69, inl ctxA Try.f69), (70, inl ctxA Try.f70), (72, inl ctxA Try.f72), (73, inl ctxA Try.f73), (22, inl ctxA Try.f22)] ++ ssA
theorem lB : ListsOk Try.prog csrRows psC ssB := .consS (.consS (.consS (.consS (.consS (.consS (.consS (.consS (.consS (.consS lA i22_s) i73_s) i72_s) i70_s) i69_s) i47_s) i45_s) i36_s) i34_s) i32_s

end Go.Mir

namespace Go.Mir
open Go.Proofs

set_option maxRecDepth 100000

noncomputable def psR : List (Nat × PSpec) := [(25, sThere), (26, sBit), (27, sIllegal), (28, sLay), (29, sRMove), (23, sReadOnly), (24, sCounted)] ++ psC
theorem lR : ListsOk Try.prog csrRows psR ssB :=
  .consP (.consP (.consP (.consP (.consP (.consP (.consP lB f24_s) f23_s) f29_s) f28_s) f27_s) f26_s) f25_s
noncomputable abbrev ctxR : Ctx := mkCtx csrRows psR ssB 0

def two {α : Type} (n a b : Int) (x y : α) : α := bif iEq n a then bif iEq n a then x else y else bif iEq n b then x else y
def tl {α : Type} (n : Int) (x y : α) : α := bif iLe 3857 n then bif bNot (iLe n 3860) then y else x else y
/-- Is there a register? By the program's table. -/
def last {α : Type} (n : Int) (x y : α) : α := bif iLe 928 n then bif iLe n 1007 then x else tl n x y else tl n x y
def tab {α : Type} (n : Int) (x y : α) : α :=
  bif iEq n 256 then x else
  bif iEq n 260 then x else
  bif iEq n 261 then x else
  bif iEq n 262 then x else
  bif iEq n 320 then x else
  bif iEq n 321 then x else
  bif iEq n 322 then x else
  bif iEq n 323 then x else
  bif iEq n 324 then x else
  bif iEq n 384 then x else
  bif iEq n 768 then x else
  bif iEq n 769 then x else
  bif iEq n 770 then x else
  bif iEq n 771 then x else
  bif iEq n 772 then x else
  bif iEq n 773 then x else
  bif iEq n 774 then x else
  bif iEq n 832 then x else
  bif iEq n 833 then x else
  bif iEq n 834 then x else
  bif iEq n 835 then x else
  bif iEq n 836 then x else
  two n 2816 3072 (x) (
  two n 2818 3074 (x) (
  bif iEq n 3073 then x else
  last n x y))
def bRead (h : Hart) (n t l : Int) : Int × Bool × Unit :=
  bif iEq n 256 then (iOr .u64 (iAnd .u64 h.mstatus 786722) 8589934592, true, ()) else
  bif iEq n 260 then (iAnd .u64 h.mie (delegated h), true, ()) else
  bif iEq n 261 then (h.stcc.addr, true, ()) else
  bif iEq n 262 then (iAnd .u64 h.scounteren 7, true, ()) else
  bif iEq n 320 then (iAnd .u64 h.sscratch 18446744073709551615, true, ()) else
  bif iEq n 321 then (h.sepcc.addr, true, ()) else
  bif iEq n 322 then (iAnd .u64 h.scause 18446744073709551615, true, ()) else
  bif iEq n 323 then (iAnd .u64 h.stval 18446744073709551615, true, ()) else
  bif iEq n 324 then (iAnd .u64 (mipV h (t, l, ())) (delegated h), true, ()) else
  bif iEq n 384 then (h.satp, true, ()) else
  bif iEq n 768 then (iOr .u64 (iOr .u64 (iAnd .u64 h.mstatus 8264106) 8589934592) 34359738368, true, ()) else
  bif iEq n 769 then (9223372036856090885, true, ()) else
  bif iEq n 770 then (iAnd .u64 h.medeleg 402699263, true, ()) else
  bif iEq n 771 then (iAnd .u64 h.mideleg 546, true, ()) else
  bif iEq n 772 then (iAnd .u64 h.mie 2730, true, ()) else
  bif iEq n 773 then (h.mtcc.addr, true, ()) else
  bif iEq n 774 then (iAnd .u64 h.mcounteren 7, true, ()) else
  bif iEq n 832 then (iAnd .u64 h.mscratch 18446744073709551615, true, ()) else
  bif iEq n 833 then (h.mepcc.addr, true, ()) else
  bif iEq n 834 then (iAnd .u64 h.mcause 18446744073709551615, true, ()) else
  bif iEq n 835 then (iAnd .u64 h.mtval 18446744073709551615, true, ()) else
  bif iEq n 836 then (mipV h (t, l, ()), true, ()) else
  two n 2816 3072 ((iAnd .u64 h.cycle 18446744073709551615, true, ())) (
  two n 2818 3074 ((iAnd .u64 h.instret 18446744073709551615, true, ())) (
  bif iEq n 3073 then (t, true, ()) else
  last n (0, true, ()) (0, false, ())))
def rRead (h : Hart) (n t l : Int) : Int × Bool × Unit :=
  bif iEq n 256 then (iAdd .u64 (iAnd .u64 h.mstatus 786722) 8589934592, true, ()) else
  bif iEq n 260 then (iAnd .u64 (iAnd .u64 h.mie h.mideleg) 546, true, ()) else
  bif iEq n 261 then (h.stcc.addr, true, ()) else
  bif iEq n 262 then (iRem h.scounteren 8, true, ()) else
  bif iEq n 320 then (h.sscratch, true, ()) else
  bif iEq n 321 then (h.sepcc.addr, true, ()) else
  bif iEq n 322 then (h.scause, true, ()) else
  bif iEq n 323 then (h.stval, true, ()) else
  bif iEq n 324 then (iAnd .u64 (iAnd .u64 (iOr .u64 (iAnd .u64 h.mip 546) (iAnd .u64 l 2730)) h.mideleg) 546, true, ()) else
  bif iEq n 384 then (h.satp, true, ()) else
  bif iEq n 768 then (iAdd .u64 (iAdd .u64 (iAnd .u64 h.mstatus 8264106) 8589934592) 34359738368, true, ()) else
  bif iEq n 769 then (9223372036856090885, true, ()) else
  bif iEq n 770 then (iAnd .u64 h.medeleg 402699263, true, ()) else
  bif iEq n 771 then (iAnd .u64 h.mideleg 546, true, ()) else
  bif iEq n 772 then (iAnd .u64 h.mie 2730, true, ()) else
  bif iEq n 773 then (h.mtcc.addr, true, ()) else
  bif iEq n 774 then (iRem h.mcounteren 8, true, ()) else
  bif iEq n 832 then (h.mscratch, true, ()) else
  bif iEq n 833 then (h.mepcc.addr, true, ()) else
  bif iEq n 834 then (h.mcause, true, ()) else
  bif iEq n 835 then (h.mtval, true, ()) else
  bif iEq n 836 then (iOr .u64 (iAnd .u64 h.mip 546) (iAnd .u64 l 2730), true, ()) else
  two n 2816 3072 ((h.cycle, true, ())) (
  two n 2818 3074 ((h.instret, true, ())) (
  bif iEq n 3073 then (t, true, ()) else
  (0, there n, ())))
def sRead : PSpec := pspec csrRows [.p .hart, .v i64, .v u64, .v u64] (.tu [u64, .bo]) (fun _ => []) fun x => bRead x.1 x.2.1 x.2.2.1 x.2.2.2.1
theorem f12_s : PSound Try.prog csrRows 12 sRead :=
  see_clean (fn := Try.f12) (lR.ctx 0) csr_mix (fn_is (by kernel_rfl) (by kernel_rfl)) (fun x => by kernel_rfl) (fun x => by kernel_rfl) fun x => by kernel_rfl
def sRRead : PSpec := pspec csrRows [.p .hart, .v i64, .v u64, .v u64] (.tu [u64, .bo]) (fun _ => []) fun x => rRead x.1 x.2.1 x.2.2.1 x.2.2.2.1
theorem f13_s : PSound Try.prog csrRows 13 sRRead :=
  see_clean (fn := Try.f13) (lR.ctx 0) csr_mix (fn_is (by kernel_rfl) (by kernel_rfl)) (fun x => by kernel_rfl) (fun x => by kernel_rfl) fun x => by kernel_rfl

def ill : Trap := ⟨true, 2, 0⟩
def noTrap : Trap := ⟨false, 0, 0⟩
def byPcc : Trap := ⟨true, 28, 1048⟩
def lvl (n : Int) : Int := iAnd .i64 (iShr .i64 n 8) 3
def mayEnd (h : Hart) (n : Int) : Trap := bif iLt 0 (lvl n) then bif iEq (iAnd .i64 h.pcc.perms 512) 0 then byPcc else noTrap else noTrap
def mayCnt (h : Hart) (n : Int) : Trap := bif iLe 3072 n then bif iLe n 3074 then bif counted h n then ill else mayEnd h n else mayEnd h n else mayEnd h n
def mayRest (h : Hart) (n : Int) : Trap := bif iEq n 384 then bif iEq h.priv 1 then bif bNot (iEq (iAnd .u64 h.mstatus 1048576) 0) then ill else mayCnt h n else mayCnt h n else mayCnt h n
def mayT (h : Hart) (n : Int) (w : Bool) : Trap :=
  bif iLt h.priv (lvl n) then bif iLt h.priv (lvl n) then ill else mayRest h n else bif w then bif readOnly n then ill else mayRest h n else mayRest h n
def bMay (h : Hart) (n : Int) (w : Bool) : Trap := tab n (mayT h n w) ill

def rLvl (n : Int) : Int := iRem (iQuo .i64 n 256) 4
def rMayEnd (h : Hart) (n : Int) : Trap := bif bNot (iEq (rLvl n) 0) then bif iEq (iRem (iQuo .i64 h.pcc.perms 512) 2) 0 then byPcc else noTrap else noTrap
def rMayS (h : Hart) (n : Int) : Trap := bif iEq h.priv 0 then bif bNot (rBit h.scounteren (iSub .i64 n 3072)) then ill else rMayEnd h n else rMayEnd h n
def rMayCnt (h : Hart) (n : Int) : Trap :=
  bif iLe 3072 n then bif iLe n 3074 then bif iLt h.priv 3 then bif bNot (rBit h.mcounteren (iSub .i64 n 3072)) then ill else rMayS h n else rMayS h n else rMayEnd h n else rMayEnd h n
def rMayRest (h : Hart) (n : Int) : Trap := bif iEq n 384 then bif iEq h.priv 1 then bif rBit h.mstatus 20 then ill else rMayCnt h n else rMayCnt h n else rMayCnt h n
def rMay (h : Hart) (n : Int) (w : Bool) : Trap :=
  bif bNot (there n) then ill else bif iLt h.priv (rLvl n) then ill else bif w then bif iEq (iQuo .i64 n 1024) 3 then ill else rMayRest h n else rMayRest h n

def mayEndT (h : Hart) (n : Int) : T Trap := .br (iLt 0 (lvl n)) (.br (iEq (iAnd .i64 h.pcc.perms 512) 0) (.ret byPcc) (.ret noTrap)) (.ret noTrap)
def mayCntT (h : Hart) (n : Int) : T Trap := .br (iLe 3072 n) (.br (iLe n 3074) (.br (counted h n) (.ret ill) (mayEndT h n)) (mayEndT h n)) (mayEndT h n)
def mayRestT (h : Hart) (n : Int) : T Trap := .br (iEq n 384) (.br (iEq h.priv 1) (.br (bNot (iEq (iAnd .u64 h.mstatus 1048576) 0)) (.ret ill) (mayCntT h n)) (mayCntT h n)) (mayCntT h n)
def mayTT (h : Hart) (n : Int) (w : Bool) : T Trap :=
  .br (iLt h.priv (lvl n)) (.br (iLt h.priv (lvl n)) (.ret ill) (mayRestT h n)) (.br w (.br (readOnly n) (.ret ill) (mayRestT h n)) (mayRestT h n))
def T2 {α : Type} (n a b : Int) (x y : T α) : T α := .br (iEq n a) (.br (iEq n a) x y) (.br (iEq n b) x y)
def tlT {α : Type} (n : Int) (x y z : T α) : T α := .br (iLe 3857 n) (.br (bNot (iLe n 3860)) (.br (bNot (iLe n 3860)) y z) x) y
def lastT {α : Type} (n : Int) (x y z : T α) : T α := .br (iLe 928 n) (.br (iLe n 1007) x (tlT n x y z)) (tlT n x y z)
def tabT {α : Type} (n : Int) (x y z : T α) : T α := .br (iEq n 256) x (
  .br (iEq n 260) x (
  .br (iEq n 261) x (
  .br (iEq n 262) x (
  .br (iEq n 320) x (
  .br (iEq n 321) x (
  .br (iEq n 322) x (
  .br (iEq n 323) x (
  .br (iEq n 324) x (
  .br (iEq n 384) x (
  .br (iEq n 768) x (
  .br (iEq n 769) x (
  .br (iEq n 770) x (
  .br (iEq n 771) x (
  .br (iEq n 772) x (
  .br (iEq n 773) x (
  .br (iEq n 774) x (
  .br (iEq n 832) x (
  .br (iEq n 833) x (
  .br (iEq n 834) x (
  .br (iEq n 835) x (
  .br (iEq n 836) x (
  T2 n 2816 3072 x (T2 n 2818 3074 x (.br (iEq n 3073) x (lastT n x y z)))))))))))))))))))))))))
def sMay : PSpec := pspec csrRows [.p .hart, .v i64, .v .bo] (.one .trap) (fun _ => []) fun x => bMay x.1 x.2.1 x.2.2.1
def gMay (h : Hart) (n : Int) (w : Bool) : T Trap := tabT n (mayTT h n w) (.ret ill) (mayRestT h n)
theorem gMay_c (h : Hart) (n : Int) (w : Bool) : (gMay h n w).clean = true := by kernel_rfl
theorem mayTT_v (h : Hart) (n : Int) (w : Bool) : (mayTT h n w).val = mayT h n w := rfl
theorem tabT_v {α : Type} [Inhabited α] (n : Int) (x y z : T α) : (tabT n x y z).val = tab n x.val y.val := by
  have ht : (tlT n x y z).val = tl n x.val y.val := by
    unfold tlT tl
    simp only [T.val]
    cases iLe 3857 n <;> cases bNot (iLe n 3860) <;> rfl
  have hl : (lastT n x y z).val = last n x.val y.val := by
    unfold lastT last
    simp only [T.val, ht]
  have h2 : ∀ (a b : Int) (x y : T α), (T2 n a b x y).val = two n a b x.val y.val := fun a b x y => by
    unfold T2 two
    simp only [T.val]
  unfold tabT tab
  simp only [T.val, hl, h2]
theorem gMay_v (h : Hart) (n : Int) (w : Bool) : (gMay h n w).val = bMay h n w := by
  unfold gMay bMay
  rw [tabT_v, mayTT_v]
  rfl
theorem f10_s : PSound Try.prog csrRows 10 sMay :=
  txt_sound (fn := Try.f10) (l := [.p .hart, .v i64, .v .bo]) (re := .one .trap) (lR.ctx 0) csr_mix (fun x => gMay x.1 x.2.1 x.2.2.1) (fn_is (by kernel_rfl) (by kernel_rfl)) (fun x => by kernel_rfl) fun x _ => T.holds_of (gMay_c _ _ _) (gMay_v _ _ _)
def sRMay : PSpec := pspec csrRows [.p .hart, .v i64, .v .bo] (.one .trap) (fun _ => []) fun x => rMay x.1 x.2.1 x.2.2.1
theorem f11_s : PSound Try.prog csrRows 11 sRMay :=
  see_clean (fn := Try.f11) (lR.ctx 0) csr_mix (fn_is (by kernel_rfl) (by kernel_rfl)) (fun x => by kernel_rfl) (fun x => by kernel_rfl) fun x => by kernel_rfl

noncomputable def wDef : Bool × Hart × Unit := ((Re.inh (.one .bo)).default, (Objs.inh [.p .hart, .v i64, .v u64]).default)
abbrev Wr : Type := Bool × Hart × Unit
def no_ (h : Hart) : Wr := (false, h, ())
noncomputable def bWrite (h : Hart) (n t : Int) : Wr :=
  bif iEq n 256 then bif readOnly n then no_ h else (true, { h with mstatus := iOr .u64 (iAndNot .u64 h.mstatus 786722) (iAnd .u64 t 786722) }, ()) else
  bif iEq n 260 then bif readOnly n then no_ h else (true, { h with mie := iOr .u64 (iAndNot .u64 h.mie (delegated h)) (iAnd .u64 t (delegated h)) }, ()) else
  bif iEq n 261 then bif readOnly n then no_ h else (true, { h with stcc := bMove h.stcc (iAndNot .u64 t 2) }, ()) else
  bif iEq n 262 then bif readOnly n then no_ h else (true, { h with scounteren := iAnd .u64 t 7 }, ()) else
  bif iEq n 320 then bif readOnly n then no_ h else (true, { h with sscratch := iAnd .u64 t 18446744073709551615 }, ()) else
  bif iEq n 321 then bif readOnly n then no_ h else (true, { h with sepcc := bMove h.sepcc (iAndNot .u64 t 1) }, ()) else
  bif iEq n 322 then bif readOnly n then no_ h else (true, { h with scause := iAnd .u64 t 18446744073709551615 }, ()) else
  bif iEq n 323 then bif readOnly n then no_ h else (true, { h with stval := iAnd .u64 t 18446744073709551615 }, ()) else
  bif iEq n 324 then bif readOnly n then no_ h else (true, { h with mip := iOr .u64 (iAndNot .u64 h.mip (iAnd .u64 2 h.mideleg)) (iAnd .u64 t (iAnd .u64 2 h.mideleg)) }, ()) else
  bif iEq n 384 then bif readOnly n then no_ h else bif iEq (iShr .u64 t 60) 0 then (true, { h with satp := t }, ()) else bif iEq (iShr .u64 t 60) 8 then (true, { h with satp := t }, ()) else (true, h, ()) else
  bif iEq n 768 then bif readOnly n then no_ h else bif iEq (iAnd .u64 (iShr .u64 (iAnd .u64 t 8264106) 11) 3) 2 then (true, { h with mstatus := iAndNot .u64 (iAnd .u64 t 8264106) 6144 }, ()) else (true, { h with mstatus := iAnd .u64 t 8264106 }, ()) else
  bif iEq n 769 then bif readOnly n then no_ h else (true, h, ()) else
  bif iEq n 770 then bif readOnly n then no_ h else (true, { h with medeleg := iAnd .u64 t 402699263 }, ()) else
  bif iEq n 771 then bif readOnly n then no_ h else (true, { h with mideleg := iAnd .u64 t 546 }, ()) else
  bif iEq n 772 then bif readOnly n then no_ h else (true, { h with mie := iAnd .u64 t 2730 }, ()) else
  bif iEq n 773 then bif readOnly n then no_ h else (true, { h with mtcc := bMove h.mtcc (iAndNot .u64 t 2) }, ()) else
  bif iEq n 774 then bif readOnly n then no_ h else (true, { h with mcounteren := iAnd .u64 t 7 }, ()) else
  bif iEq n 832 then bif readOnly n then no_ h else (true, { h with mscratch := iAnd .u64 t 18446744073709551615 }, ()) else
  bif iEq n 833 then bif readOnly n then no_ h else (true, { h with mepcc := bMove h.mepcc (iAndNot .u64 t 1) }, ()) else
  bif iEq n 834 then bif readOnly n then no_ h else (true, { h with mcause := iAnd .u64 t 18446744073709551615 }, ()) else
  bif iEq n 835 then bif readOnly n then no_ h else (true, { h with mtval := iAnd .u64 t 18446744073709551615 }, ()) else
  bif iEq n 836 then bif readOnly n then no_ h else (true, { h with mip := iAnd .u64 t 546 }, ()) else
  two n 2816 3072 (bif readOnly n then no_ h else (true, { h with cycle := iAnd .u64 t 18446744073709551615 }, ())) (
  two n 2818 3074 (bif readOnly n then no_ h else (true, { h with instret := iAnd .u64 t 18446744073709551615 }, ())) (
  bif iEq n 3073 then bif readOnly n then no_ h else wDef else
  last n (bif readOnly n then no_ h else (true, h, ())) (no_ h)))
def rWr (h : Hart) (n t : Int) : Wr :=
  bif iEq n 256 then (true, { h with mstatus := rLay h.mstatus t 786722 }, ()) else
  bif iEq n 260 then (true, { h with mie := rLay h.mie t (iAnd .u64 h.mideleg 546) }, ()) else
  bif iEq n 261 then (true, { h with stcc := rMove h.stcc (iSub .u64 t (iAnd .u64 t 2)) }, ()) else
  bif iEq n 262 then (true, { h with scounteren := iRem t 8 }, ()) else
  bif iEq n 320 then (true, { h with sscratch := t }, ()) else
  bif iEq n 321 then (true, { h with sepcc := rMove h.sepcc (iSub .u64 t (iRem t 2)) }, ()) else
  bif iEq n 322 then (true, { h with scause := t }, ()) else
  bif iEq n 323 then (true, { h with stval := t }, ()) else
  bif iEq n 324 then (true, { h with mip := rLay h.mip t (iAnd .u64 h.mideleg 2) }, ()) else
  bif iEq n 384 then bif iEq (iShr .u64 t 60) 0 then (true, { h with satp := t }, ()) else bif iEq (iShr .u64 t 60) 8 then (true, { h with satp := t }, ()) else (true, h, ()) else
  bif iEq n 768 then bif iEq (iRem (iShr .u64 t 11) 4) 2 then (true, { h with mstatus := iAnd .u64 t 8257962 }, ()) else (true, { h with mstatus := iAnd .u64 t 8264106 }, ()) else
  bif iEq n 770 then (true, { h with medeleg := iAnd .u64 t 402699263 }, ()) else
  bif iEq n 771 then (true, { h with mideleg := iAnd .u64 t 546 }, ()) else
  bif iEq n 772 then (true, { h with mie := iAnd .u64 t 2730 }, ()) else
  bif iEq n 773 then (true, { h with mtcc := rMove h.mtcc (iSub .u64 t (iAnd .u64 t 2)) }, ()) else
  bif iEq n 774 then (true, { h with mcounteren := iRem t 8 }, ()) else
  bif iEq n 832 then (true, { h with mscratch := t }, ()) else
  bif iEq n 833 then (true, { h with mepcc := rMove h.mepcc (iSub .u64 t (iRem t 2)) }, ()) else
  bif iEq n 834 then (true, { h with mcause := t }, ()) else
  bif iEq n 835 then (true, { h with mtval := t }, ()) else
  bif iEq n 836 then (true, { h with mip := iAnd .u64 t 546 }, ()) else
  bif iEq n 2816 then (true, { h with cycle := t }, ()) else
  bif iEq n 2818 then (true, { h with instret := t }, ()) else
  (true, h, ())
def rWrite (h : Hart) (n t : Int) : Wr := bif bNot (there n) then no_ h else bif iEq (iQuo .i64 n 1024) 3 then no_ h else rWr h n t
def wNeed (h : Hart) (n : Int) : Prop := (iEq n 256 = false → (iEq n 260 = false → ((iEq n 261 = true → readOnly n = false → eOk h.stcc) ∧ (iEq n 261 = false → (iEq n 262 = false → (iEq n 320 = false → ((iEq n 321 = true → readOnly n = false → eOk h.sepcc) ∧ (iEq n 321 = false → (iEq n 322 = false → (iEq n 323 = false → (iEq n 324 = false → (iEq n 384 = false → (iEq n 768 = false → (iEq n 769 = false → (iEq n 770 = false → (iEq n 771 = false → (iEq n 772 = false → ((iEq n 773 = true → readOnly n = false → eOk h.mtcc) ∧ (iEq n 773 = false → (iEq n 774 = false → (iEq n 832 = false → ((iEq n 833 = true → readOnly n = false → eOk h.mepcc) ∧ (iEq n 833 = false → (iEq n 834 = false → (iEq n 835 = false → (iEq n 836 = false → ((iEq n 2816 = true → iEq n 2816 = false → ((iEq n 2818 = true → iEq n 2818 = false → (iEq n 3073 = true → readOnly n = false → False)) ∧ (iEq n 2818 = false → iEq n 3074 = false → (iEq n 3073 = true → readOnly n = false → False)))) ∧ (iEq n 2816 = false → iEq n 3072 = false → ((iEq n 2818 = true → iEq n 2818 = false → (iEq n 3073 = true → readOnly n = false → False)) ∧ (iEq n 2818 = false → iEq n 3074 = false → (iEq n 3073 = true → readOnly n = false → False)))))))))))))))))))))))))))))))
def rNeed (h : Hart) (n : Int) : Prop := bNot (there n) = false → iEq (iQuo .i64 n 1024) 3 = false → (iEq n 256 = false → (iEq n 260 = false → ((iEq n 261 = true → eOk h.stcc) ∧ (iEq n 261 = false → (iEq n 262 = false → (iEq n 320 = false → ((iEq n 321 = true → eOk h.sepcc) ∧ (iEq n 321 = false → (iEq n 322 = false → (iEq n 323 = false → (iEq n 324 = false → (iEq n 384 = false → (iEq n 768 = false → (iEq n 770 = false → (iEq n 771 = false → (iEq n 772 = false → ((iEq n 773 = true → eOk h.mtcc) ∧ (iEq n 773 = false → (iEq n 774 = false → (iEq n 832 = false → (iEq n 833 = true → eOk h.mepcc)))))))))))))))))))))

/-- A hart whose four capabilities with addresses of registers have exponents. -/
def fourOk (h : Hart) : Prop := eOk h.stcc ∧ eOk h.sepcc ∧ eOk h.mtcc ∧ eOk h.mepcc

theorem readOnly_3073 : readOnly 3073 = true := by
  unfold readOnly
  rw [iEq_t, show (10 : Int) = ((10 : Nat) : Int) from rfl, iShr_n _ _ 10 (by decide), iAnd_i_low _ 2 (by decide) (by decide)]
  decide

theorem wNeed_of {h : Hart} (n : Int) (hh : fourOk h) : wNeed h n := by
  obtain ⟨h1, h2, h3, h4⟩ := hh
  have h5 : iEq n 3073 = true → readOnly n = false → False := fun a b => by
    rw [iEq_t] at a; subst a; rw [readOnly_3073] at b; cases b
  unfold wNeed
  repeat (first | exact h1 | exact h2 | exact h3 | exact h4 | exact h5 | intro _ | apply And.intro)

theorem rNeed_of {h : Hart} (n : Int) (hh : fourOk h) : rNeed h n := by
  obtain ⟨h1, h2, h3, h4⟩ := hh
  unfold rNeed
  repeat (first | exact h1 | exact h2 | exact h3 | exact h4 | intro _ | apply And.intro)

noncomputable def sWrite : Spec := mspec csrRows [.p .hart, .v i64, .v u64] (.one .bo) (fun x => [fourOk x.1]) fun x => bWrite x.1 x.2.1 x.2.2.1
theorem f14_s : SSound Try.prog csrRows 14 sWrite :=
  mut_sound (fn := Try.f14) (lR.ctx 0) csr_mix (fn_is (by kernel_rfl) (by kernel_rfl)) (fun x _ => by kernel_rfl) fun x hx => T.ok_req (by
    rw [show (runT (mkCtx csrRows psR ssB 0) Try.f14 [.p .hart, .v i64, .v u64] (.one .bo) x).req = wNeed x.1 x.2.1 by kernel_rfl]
    exact wNeed_of _ (hx _ (List.mem_singleton.2 rfl)))
noncomputable def sRWrite : Spec := mspec csrRows [.p .hart, .v i64, .v u64] (.one .bo) (fun x => [fourOk x.1]) fun x => rWrite x.1 x.2.1 x.2.2.1
theorem f15_s : SSound Try.prog csrRows 15 sRWrite :=
  mut_sound (fn := Try.f15) (lR.ctx 0) csr_mix (fn_is (by kernel_rfl) (by kernel_rfl)) (fun x _ => by kernel_rfl) fun x hx => T.ok_req (by
    rw [show (runT (mkCtx csrRows psR ssB 0) Try.f15 [.p .hart, .v i64, .v u64] (.one .bo) x).req = rNeed x.1 x.2.1 by kernel_rfl]
    exact rNeed_of _ (hx _ (List.mem_singleton.2 rfl)))

end Go.Mir

namespace Go.Mir
open Go.Proofs

set_option maxRecDepth 100000

noncomputable def psL : List (Nat × PSpec) := [(10, sMay), (11, sRMay), (12, sRead), (13, sRRead), (16, sRoot), (8, sHartRight), (21, sNumber)] ++ psR
noncomputable def ssL : List (Nat × Spec) := [(14, sWrite), (15, sRWrite)] ++ ssB
theorem lL : ListsOk Try.prog csrRows psL ssL :=
  .consP (.consP (.consP (.consP (.consP (.consP (.consP (.consS (.consS lR f15_s) f14_s) f21_s) f8_s) f16_s) f13_s) f12_s) f11_s) f10_s

def ofV (h : Hart) (n : Int) : Int := (bRead h n 5 0).1
def sOf17 : PSpec := pspec csrRows [.p .hart, .v i64] (.one u64) (fun _ => []) fun x => ofV x.1 x.2.1
theorem f17_s : PSound Try.prog csrRows 17 sOf17 :=
  see_clean (fn := Try.f17) (lL.ctx 0) csr_mix (fn_is (by kernel_rfl) (by kernel_rfl)) (fun x => by kernel_rfl) (fun x => by kernel_rfl) fun x => by kernel_rfl

noncomputable def machine : Hart := (fnVal (mkCtx csrRows psL ssL 34) Try.f19 [] (.one .hart) ()).1
noncomputable def sMachine : PSpec := pspec csrRows [] (.one .hart) (fun _ => []) fun _ => machine
theorem f19_c (x : Ins []) : (runT (mkCtx csrRows psL ssL 34) Try.f19 [] (.one .hart) x).clean = true := by kernel_rfl
theorem f19_s : PSound Try.prog csrRows 19 sMachine :=
  pure_clean (fn := Try.f19) (l := []) (re := .one .hart) (lL.ctx 34) csr_mix rfl (fn_is (by kernel_rfl) (by kernel_rfl)) val_fst f19_c

end Go.Mir

namespace Go.Mir
open Go.Proofs

set_option maxRecDepth 100000

def alL : List (Int × Int) → Int → Int → Bool
  | [], n, m => iEq n m
  | p :: l, n, m => bif iEq p.1 n then bif iEq p.2 m then true else alL l n m else alL l n m
def alT : List (Int × Int) → Int → Int → T Bool
  | [], n, m => .ret (iEq n m)
  | p :: l, n, m => .br (iEq p.1 n) (.br (iEq p.2 m) (.ret true) (alT l n m)) (alT l n m)
theorem alT_h : ∀ (l : List (Int × Int)) (n m : Int), (alT l n m).holds fun r => r = alL l n m
  | [], n, m => rfl
  | p :: l, n, m => by
    have := alT_h l n m
    unfold alT alL
    refine ⟨fun h1 => ⟨fun h2 => ?_, fun h2 => ?_⟩, fun h1 => ?_⟩
    · rw [h1, h2]; rfl
    · rw [h1, h2]; exact this
    · rw [h1]; exact this
def als : List (Int × Int) := [(0x100, 0x300), (0x104, 0x304), (0x144, 0x344), (0x300, 0x100), (0x304, 0x104), (0x344, 0x144), (0x303, 0x104), (0x303, 0x144), (0xB00, 0xC00), (0xB02, 0xC02)]
def sAliases : PSpec := pspec csrRows [.v i64, .v i64] (.one .bo) (fun _ => []) fun x => alL als x.1 x.2.1
theorem f18_s : PSound Try.prog csrRows 18 sAliases :=
  txt_sound (fn := Try.f18) (l := [.v i64, .v i64]) (re := .one .bo) (l0.ctx 12) csr_mix (fun x => alT als x.1 x.2.1) (fn_is (by kernel_rfl) (by kernel_rfl)) (fun x => by kernel_rfl) fun x _ => alT_h _ _ _


end Go.Mir

namespace Go.Mir
open Go.Proofs

set_option maxRecDepth 100000

noncomputable def psM : List (Nat × PSpec) := [(19, sMachine), (17, sOf17), (18, sAliases)] ++ psL
theorem lM : ListsOk Try.prog csrRows psM ssL := .consP (.consP (.consP lL f18_s) f17_s) f19_s
noncomputable def m1 : Hart := (bWrite machine 768 18446744073709551615).2.1
noncomputable def m2 : Hart := (bWrite m1 768 4096).2.1
noncomputable def m3 : Hart := (bWrite m2 773 2147483651).2.1
theorem eOk52 {c : Cap} (h : c.e = 52) : eOk c := by unfold eOk; omega
theorem fourOk52 {h : Hart} (h1 : h.stcc.e = 52) (h2 : h.sepcc.e = 52) (h3 : h.mtcc.e = 52) (h4 : h.mepcc.e = 52) : fourOk h := ⟨eOk52 h1, eOk52 h2, eOk52 h3, eOk52 h4⟩
theorem f9_okv : (runT (mkCtx csrRows psM ssL 0) Try.f9 [] (.one .bo) ()).okv (fun r => r.1 = true) = (fourOk machine ∧ fourOk m1 ∧ fourOk m2 ∧ fourOk m3 ∧ true = true) := by kernel_rfl
theorem f9_h : (runT (mkCtx csrRows psM ssL 0) Try.f9 [] (.one .bo) ()).holds fun r => r.1 = true :=
  T.okv_holds (cast f9_okv.symm ⟨fourOk52 (by kernel_rfl) (by kernel_rfl) (by kernel_rfl) (by kernel_rfl), fourOk52 (by kernel_rfl) (by kernel_rfl) (by kernel_rfl) (by kernel_rfl), fourOk52 (by kernel_rfl) (by kernel_rfl) (by kernel_rfl) (by kernel_rfl),
    fourOk52 (by kernel_rfl) (by kernel_rfl) (by kernel_rfl) (by kernel_rfl), rfl⟩)
def sWorks : PSpec := pspec csrRows [] (.one .bo) (fun _ => []) fun _ => true
theorem f9_s : PSound Try.prog csrRows 9 sWorks :=
  pspec_sound (fn := Try.f9) (l := []) (re := .one .bo) (lM.ctx 0) csr_mix (fn_is (by kernel_rfl) (by kernel_rfl)) fun _ _ => T.holds_mono (Q := fun r => r.1 = true) (fun r hr => by obtain ⟨a, b⟩ := r; cases hr; rfl) f9_h

noncomputable def psT : List (Nat × PSpec) := [(9, sWorks)] ++ psM
theorem lT : ListsOk Try.prog csrRows psT ssL := .consP lM f9_s

end Go.Mir

namespace Go.Mir

/-- A number modulo 2^65, in two parts. -/
def enc (n : Int) : Wd := (n / 18446744073709551616 % 2, n % 18446744073709551616, ())

theorem enc_congr {n m : Int} (h : n % 36893488147419103232 = m % 36893488147419103232) : enc n = enc m := by
  unfold enc
  rw [show n / 18446744073709551616 % 2 = m / 18446744073709551616 % 2 by omega, show n % 18446744073709551616 = m % 18446744073709551616 by omega]

theorem enc_parts {h l : Int} (hh : h = 0 ∨ h = 1) (hl : inU l) : ((h, l, ()) : Wd) = enc (h * 18446744073709551616 + l) := by
  unfold inU at hl
  unfold enc
  rw [show (h * 18446744073709551616 + l) / 18446744073709551616 % 2 = h by omega, show (h * 18446744073709551616 + l) % 18446744073709551616 = l by omega]

theorem signed_enc {v : Int} (h : inI v) : signed v = enc v := by
  unfold inI at h
  unfold signed enc
  rw [show (63 : Int) = ((63 : Nat) : Int) from rfl, iShr_n _ _ 63 (by decide), iCv_u]
  rw [show v % 18446744073709551616 / 2 ^ 63 = v / 18446744073709551616 % 2 by omega]

theorem small_enc {m : Int} (h : inU m) : ((0, iCv .u64 m, ()) : Wd) = enc m := by
  unfold inU at h
  unfold enc
  rw [iCv_u, show m / 18446744073709551616 % 2 = 0 by omega]

theorem upW_enc (x : Int) (n : Nat) : upW (enc x) n = enc (x * 2 ^ n) := by
  unfold upW
  by_cases h0 : n = 0
  · subst h0; rw [show iEq ((0 : Nat) : Int) 0 = true from iEq_t.2 rfl]; simp
  · rw [show iEq (n : Int) 0 = false from iEq_f.2 (by omega)]
    by_cases h1 : 65 ≤ n
    · rw [show iLe 65 (n : Int) = true from iLe_t.2 (by omega)]
      obtain ⟨k, rfl⟩ : ∃ k, n = 65 + k := ⟨n - 65, by omega⟩
      have : x * 2 ^ (65 + k) = (x * 2 ^ k) * 36893488147419103232 := by rw [Int.pow_add, ← Int.mul_assoc, Int.mul_right_comm]; rfl
      rw [this]
      generalize x * 2 ^ k = y
      simp only [cond_false, cond_true]
      exact enc_congr (n := 0) (by omega)
    · rw [show iLe 65 (n : Int) = false from iLe_f.2 (by omega)]
      by_cases h2 : n = 64
      · subst h2
        rw [show iEq ((64 : Nat) : Int) 64 = true from iEq_t.2 rfl]
        simp only [cond_false, cond_true]
        unfold enc
        rw [iAnd_u_low _ 1 (by decide) (by decide)]
        simp only []
        rw [show x % 18446744073709551616 % 2 ^ 1 = x * 2 ^ 64 / 18446744073709551616 % 2 by omega, show (0 : Int) = x * 2 ^ 64 % 18446744073709551616 by omega]
      · rw [show iEq (n : Int) 64 = false from iEq_f.2 (by omega)]
        simp only [cond_false]
        have hs : iSub .i64 64 (n : Int) = ((64 - n : Nat) : Int) := by rw [iSub_i (by omega) (by omega)]; omega
        rw [hs, iShr_n _ _ _ (show 64 - n ≤ 64 by omega), iShl_u _ _ (by omega), iAnd_u_low _ 1 (by decide) (by decide)]
        obtain ⟨k, hk⟩ : ∃ k, n = k + 1 := ⟨n - 1, by omega⟩
        have hP : (2 : Int) ^ n = 2 * 2 ^ k := by rw [hk, Int.pow_succ]; omega
        have hE : (18446744073709551616 : Int) = 2 ^ n * 2 ^ (64 - n) := by rw [← Int.pow_add, show n + (64 - n) = 64 by omega]; rfl
        have hQ : (0 : Int) < 2 ^ (64 - n) := Int.pow_pos (by decide)
        have hPp : (0 : Int) < 2 ^ n := Int.pow_pos (by decide)
        unfold enc
        simp only []
        have e1 : x * 2 ^ n / 18446744073709551616 = x / 2 ^ (64 - n) := by
          rw [hE, Int.mul_comm, Int.mul_ediv_mul_of_pos _ _ hPp]
        have e2 : x / 2 ^ (64 - n) = 2 ^ n * (x / 18446744073709551616) + x % 18446744073709551616 / 2 ^ (64 - n) := by
          have := Int.mul_ediv_add_emod x 18446744073709551616
          conv => lhs; rw [← this]
          rw [show 18446744073709551616 * (x / 18446744073709551616) = (2 ^ n * (x / 18446744073709551616)) * 2 ^ (64 - n) by
            conv => lhs; lhs; rw [hE]
            rw [Int.mul_right_comm]]
          rw [Int.add_comm, Int.add_mul_ediv_right _ _ (Int.ne_of_gt hQ), Int.add_comm]
        rw [e1, e2, hP]
        have e3 : (2 * 2 ^ k * (x / 18446744073709551616) + x % 18446744073709551616 / 2 ^ (64 - n)) % 2 = x % 18446744073709551616 / 2 ^ (64 - n) % 2 ^ 1 := by
          rw [Int.mul_assoc]; generalize 2 ^ k * (x / 18446744073709551616) = u; omega
        have e4 : x % 18446744073709551616 * (2 * 2 ^ k) % 18446744073709551616 = x * (2 * 2 ^ k) % 18446744073709551616 := by
          rw [Int.mul_emod, Int.emod_emod, ← Int.mul_emod]
        rw [e3, e4]

theorem plus_enc (a b : Int) : plus (enc a) (enc b) = enc (a + b) := by
  unfold plus enc
  simp only []
  rw [iAnd_u_low _ 1 (by decide) (by decide), iAdd_u, iAdd_u]
  unfold addHi addLo
  rw [show ((a / 18446744073709551616 % 2 + b / 18446744073709551616 % 2) % 18446744073709551616 + (a % 18446744073709551616 + b % 18446744073709551616 + 0) / 18446744073709551616) % 18446744073709551616 % 2 ^ 1 = (a + b) / 18446744073709551616 % 2 by omega,
    show (a % 18446744073709551616 + b % 18446744073709551616 + 0) % 18446744073709551616 = (a + b) % 18446744073709551616 by omega]

theorem refAdd_enc (a b : Int) : refAdd (enc a) (enc b) = enc (a + b) := by
  unfold refAdd enc
  simp only []
  rw [iAdd_u, iAdd_u, iAdd_u, iRem_n (by omega), iRem_n (by omega)]
  cases h : iLt ((a % 18446744073709551616 + b % 18446744073709551616) % 18446744073709551616) (a % 18446744073709551616) with
  | true =>
    rw [iLt_t] at h
    simp only [cond_true]
    rw [show ((a / 18446744073709551616 % 2 + b / 18446744073709551616 % 2) % 18446744073709551616 + 1) % 18446744073709551616 % 2 = (a + b) / 18446744073709551616 % 2 by omega,
      show (a % 18446744073709551616 + b % 18446744073709551616) % 18446744073709551616 = (a + b) % 18446744073709551616 by omega]
  | false =>
    rw [iLt_f] at h
    simp only [cond_false]
    rw [show (a / 18446744073709551616 % 2 + b / 18446744073709551616 % 2) % 18446744073709551616 % 2 = (a + b) / 18446744073709551616 % 2 by omega,
      show (a % 18446744073709551616 + b % 18446744073709551616) % 18446744073709551616 = (a + b) % 18446744073709551616 by omega]

theorem upL_enc (n : Nat) : ∀ (d k i : Nat) (h l : Int), i + d = n → d < k → (h = 0 ∨ h = 1) → inU l → upL k i n h l = enc ((h * 18446744073709551616 + l) * 2 ^ d)
  | d, 0, _, _, _, _, h, _, _ => absurd h (Nat.not_lt_zero _)
  | 0, k + 1, i, h, l, hi, _, hh, hl => by
    unfold upL
    rw [show iLt (Int.ofNat i) (n : Int) = false from iLt_f.2 (by simp only [Int.ofNat_eq_natCast]; omega)]
    simp only [cond_false, Int.pow_zero, Int.mul_one]
    exact enc_parts hh hl
  | d + 1, k + 1, i, h, l, hi, hd, hh, hl => by
    unfold upL
    rw [show iLt (Int.ofNat i) (n : Int) = true from iLt_t.2 (by simp only [Int.ofNat_eq_natCast]; omega)]
    simp only [cond_true]
    rw [show (63 : Int) = ((63 : Nat) : Int) from rfl, iShr_n _ _ 63 (by decide), show (1 : Int) = ((1 : Nat) : Int) from rfl, iShl_u _ 1 (by decide)]
    unfold inU at hl
    rw [upL_enc n d k (i + 1) _ _ (by omega) (by omega) (by omega) (by unfold inU; omega)]
    refine enc_congr ?_
    rw [show (2 : Int) ^ (d + 1) = 2 * 2 ^ d by rw [Int.pow_succ, Int.mul_comm], ← Int.mul_assoc]
    generalize (2 : Int) ^ d = q
    rw [Int.mul_emod, show (l / 2 ^ 63 * 18446744073709551616 + l * 2 ^ 1 % 18446744073709551616) % 36893488147419103232 = (h * 18446744073709551616 + l) * 2 % 36893488147419103232 by omega, ← Int.mul_emod]

theorem refUp_enc (l : Int) (b : Bool) (n : Nat) (hl : inU l) (hn : n ≤ 66) : refUp l b n = enc (((bif b then 1 else 0) * 18446744073709551616 + l) * 2 ^ n) := by
  unfold refUp
  cases b with
  | true => simp only [cond_true]; exact upL_enc n n 67 0 1 l (by omega) (by omega) (.inr rfl) hl
  | false => simp only [cond_false]; exact upL_enc n n 67 0 0 l (by omega) (by omega) (.inl rfl) hl

theorem refPart_enc {a s : Int} (ha : 0 ≤ a) (ha' : a < 4611686018427387904) (hs : s = -1 ∨ s = 0 ∨ s = 1) :
    inU (refPart a s).1 ∧ ((bif (refPart a s).2.1 then (1 : Int) else 0) * 18446744073709551616 + (refPart a s).1) % 36893488147419103232 = (a + s) % 36893488147419103232 := by
  unfold refPart
  rcases hs with rfl | rfl | rfl
  · rw [show iLt (-1) 0 = true from iLt_t.2 (by decide)]
    simp only [cond_true]
    refine ⟨inU_sub _ _, ?_⟩
    rw [iSub_u]
    by_cases h : a = 0
    · subst h; rw [show iEq 0 0 = true from iEq_t.2 rfl]; decide
    · rw [show iEq a 0 = false from iEq_f.2 h]; simp only [cond_false]; omega
  · rw [show iLt 0 0 = false from iLt_f.2 (by decide)]
    simp only [cond_false]
    refine ⟨inU_add _ _, ?_⟩
    rw [iAdd_u, iCv_u]; omega
  · rw [show iLt 1 0 = false from iLt_f.2 (by decide)]
    simp only [cond_false]
    refine ⟨inU_add _ _, ?_⟩
    rw [iAdd_u, iCv_u]; omega

theorem truth_cases (b : Bool) : truth b = 0 ∨ truth b = 1 := by cases b <;> simp [truth]

/-- What is known of a right capability's bounds. -/
structure bOk (c : Cap) : Prop where
  e0 : 0 ≤ c.e
  e1 : c.e ≤ 52
  b0 : 0 ≤ c.b
  b1 : c.b ≤ 16383
  t0 : 0 ≤ c.t
  t1 : c.t ≤ 4095
  a : inU c.addr

section
variable {c : Cap} (h : bOk c)
include h

theorem corner_eq : bCorner c = rCorner c := by
  obtain ⟨_, _, h1, h2, _, _, _⟩ := h
  unfold bCorner rCorner
  rw [show (11 : Int) = ((11 : Nat) : Int) from rfl, iShr_n _ _ 11 (by decide), iQuo_i h1 (by decide) (by omega), iSub_i (by omega) (by omega), iAnd_i_low _ 3 (by decide) (by decide),
    iShl_i _ 11 (by decide) (by omega) (by omega), iAdd_i (by omega) (by omega), iRem_n (by omega), iMul_i (by omega) (by omega)]
  omega

theorem middle_eq : bMiddle c = rMiddle c := by
  obtain ⟨h1, h2, _, _, _, _, ha⟩ := h
  unfold bMiddle rMiddle
  obtain ⟨n, hn⟩ := Int.eq_ofNat_of_zero_le h1
  have hn' : n ≤ 52 := by omega
  rw [iCv_u c.e, show c.e % 18446744073709551616 = c.e by omega, hn]
  have hi := inU_shr ha .u64 (n : Int)
  unfold inU at hi
  generalize iShr .u64 c.addr (n : Int) = z at *
  rw [iRem_n hi.1, iAnd_i_low _ 14 (by decide) (by decide)]
  unfold iCv
  rw [i64_wrap (n := z % 16384) (by omega) (by omega)]
  simp only [IntKind.wrap, IntKind.signed, IntKind.bits]
  simp
  omega

theorem top_eq : bT c = rT c := by
  obtain ⟨_, _, h1, h2, h3, h4, _⟩ := h
  unfold bT rT
  have ht1 := truth_cases c.big
  have ht2 : ∀ b, truth b = 0 ∨ truth b = 1 := truth_cases
  rw [show iAnd .i64 c.b 4095 = c.b % 4096 by rw [iAnd_i_low _ 12 (by decide) (by decide)]; omega]
  rw [show iRem c.b 4096 = c.b % 4096 from iRem_n h1 _]
  have ht := ht2 (iLt c.t (c.b % 4096))
  generalize truth (iLt c.t (c.b % 4096)) = u at *
  generalize truth c.big = v at *
  rw [show (12 : Int) = ((12 : Nat) : Int) from rfl, iShr_n _ _ 12 (by decide), iQuo_i h1 (by decide) (by omega), iAdd_i (a := c.b / 2 ^ 12) (by omega) (by omega), iAdd_i (a := c.b / 2 ^ 12 + u) (by omega) (by omega), iAnd_i_low _ 2 (by decide) (by decide),
    iShl_i _ 12 (by decide) (by omega) (by omega), iAdd_i (a := c.b / 4096) (by omega) (by omega), iAdd_i (a := c.b / 4096 + u) (by omega) (by omega), iRem_n (by omega), iMul_i (by omega) (by omega), iAdd_i (by omega) (by omega),
    iOr_i_add _ 12 _ h3 (by omega) (by omega) (by omega)]
  omega

theorem end_eq (n : Nat) (hn : n ≤ 52) (hc : c.e = n) {u m : Int} (hu : 0 ≤ u) (hu' : u < 4611686018427387904) (hm : 0 ≤ m) (hm' : m < 9223372036854775808) : bEnd c u m = rEnd c u m := by
  unfold bEnd rEnd
  have hst : bStep c m = rStep c m := by unfold bStep rStep; rw [corner_eq h, middle_eq h]
  have hs : rStep c m = -1 ∨ rStep c m = 0 ∨ rStep c m = 1 := by
    unfold rStep
    rcases truth_cases (iLt m (rCorner c)) with e | e <;> rcases truth_cases (iLt (rMiddle c) (rCorner c)) with e' | e' <;> rw [e, e', iSub_i (by decide) (by decide)] <;> decide
  rw [hst]
  generalize rStep c m = s at *
  have he : iAdd .i64 c.e 14 = ((n + 14 : Nat) : Int) := by rw [hc, iAdd_i (by omega) (by omega)]; omega
  rw [he, hc]
  have hus : iAdd .i64 u s = u + s := iAdd_i (by omega) (by omega)
  rw [hus, signed_enc (by unfold inI; omega), small_enc (by unfold inU; omega), upW_enc, upW_enc, plus_enc]
  obtain ⟨p1, p2⟩ := refPart_enc hu hu' hs
  rw [refUp_enc _ _ _ p1 (by omega), refUp_enc _ _ _ (inU_cv _) (by omega), refAdd_enc]
  rw [iCv_u, show m % 18446744073709551616 = m by omega]
  simp only [cond_false, Int.zero_mul, Int.zero_add]
  refine enc_congr ?_
  generalize (bif (refPart u s).2.1 then (1 : Int) else 0) * 18446744073709551616 + (refPart u s).1 = w at *
  rw [Int.add_emod, Int.mul_emod, ← p2, ← Int.mul_emod, ← Int.add_emod]

omit h in
theorem fin_eq (x y : Int) : bFin c (enc x) (enc y) = rFin c (enc x) (enc y) := by
  unfold bFin rFin enc
  simp only []
  have h1 : iAnd .u64 (iSub .u64 (iAdd .u64 (iShl .u64 (y / 18446744073709551616 % 2) 1) (iShr .u64 (y % 18446744073709551616) 63)) (iShr .u64 (x % 18446744073709551616) 63)) 3 =
      iRem (iSub .u64 (iAdd .u64 (iAdd .u64 (iMul .u64 2 (y / 18446744073709551616 % 2)) (iShr .u64 (y % 18446744073709551616) 63)) 4) (iShr .u64 (x % 18446744073709551616) 63)) 4 := by
    rw [show (63 : Int) = ((63 : Nat) : Int) from rfl, iShr_n _ _ 63 (by decide), iShr_n _ _ 63 (by decide), show iShl .u64 (y / 18446744073709551616 % 2) 1 = _ from iShl_u _ 1 (by decide), iAdd_u, iAdd_u, iAdd_u, iMul_u, iSub_u, iSub_u, iRem_n (by omega), iAnd_u_low _ 2 (by decide) (by decide)]
    omega
  rw [h1, iXor_bit (by omega), show iSub .u64 1 (y / 18446744073709551616 % 2) = 1 - y / 18446744073709551616 % 2 by rw [iSub_u]; omega]

theorem bOf_rOf : bOf c = rOf c := by
  have hb := h
  obtain ⟨h1, h2, h3, h4, h5, h6, ha⟩ := h
  obtain ⟨n, hn⟩ := Int.eq_ofNat_of_zero_le h1
  have hn' : n ≤ 52 := by omega
  have he : iAdd .i64 c.e 14 = ((n + 14 : Nat) : Int) := by rw [hn, iAdd_i (by omega) (by omega)]; omega
  have hT : 0 ≤ rT c ∧ rT c < 9223372036854775808 := by
    unfold rT
    have g1 := truth_cases c.big
    have g2 := truth_cases (iLt c.t (iRem c.b 4096))
    generalize truth c.big = v at *
    generalize truth (iLt c.t (iRem c.b 4096)) = u at *
    rw [iQuo_i h3 (by decide) (by omega), iAdd_i (a := c.b / 4096) (by omega) (by omega), iAdd_i (a := c.b / 4096 + u) (by omega) (by omega), iRem_n (by omega), iMul_i (by omega) (by omega), iAdd_i (by omega) (by omega)]
    omega
  have key : ∀ u m : Int, 0 ≤ u → u < 4611686018427387904 → 0 ≤ m → m < 9223372036854775808 → bEnd c u m = rEnd c u m := fun u m a1 a2 a3 a4 => end_eq hb n hn' hn a1 a2 a3 a4
  have isenc : ∀ u m : Int, 0 ≤ u → u < 4611686018427387904 → 0 ≤ m → m < 9223372036854775808 → ∃ z, rEnd c u m = enc z := by
    intro u m a1 a2 a3 a4
    unfold rEnd
    have hs : rStep c m = -1 ∨ rStep c m = 0 ∨ rStep c m = 1 := by
      unfold rStep
      rcases truth_cases (iLt m (rCorner c)) with e | e <;> rcases truth_cases (iLt (rMiddle c) (rCorner c)) with e' | e' <;> rw [e, e', iSub_i (by decide) (by decide)] <;> decide
    rw [he, hn, refUp_enc _ _ _ (refPart_enc a1 a2 hs).1 (by omega), refUp_enc _ _ _ (inU_cv _) (by omega), refAdd_enc]
    exact ⟨_, rfl⟩
  have all : ∀ u : Int, 0 ≤ u → u < 4611686018427387904 → bFin c (bEnd c u c.b) (bEnd c u (bT c)) = rFin c (rEnd c u c.b) (rEnd c u (rT c)) := by
    intro u a1 a2
    rw [top_eq hb, key u c.b a1 a2 h3 (by omega), key u (rT c) a1 a2 hT.1 hT.2]
    obtain ⟨x, hx⟩ := isenc u c.b a1 a2 h3 (by omega)
    obtain ⟨y, hy⟩ := isenc u (rT c) a1 a2 hT.1 hT.2
    rw [hx, hy]
    exact fin_eq x y
  unfold bOf rOf
  cases hl : iLt (iAdd .i64 c.e 14) 64 with
  | false => simp only [cond_false]; exact all 0 (by decide) (by decide)
  | true =>
    simp only [cond_true]
    rw [iLt_t, he] at hl
    have hup : bUpper c = c.addr / 2 ^ (n + 14) ∧ rUpper c = c.addr / 2 ^ (n + 14) := by
      unfold bUpper rUpper
      rw [he, iShr_n _ _ _ (show n + 14 ≤ 64 by omega), iCv_u, show ((n + 14 : Nat) : Int) % 18446744073709551616 = ((n + 14 : Nat) : Int) by omega, iShr_n _ _ _ (show n + 14 ≤ 64 by omega)]
      unfold inU at ha
      have hq : (16384 : Int) ≤ 2 ^ (n + 14) := by
        rw [Int.pow_add]
        have : (0 : Int) < 2 ^ n := Int.pow_pos (by decide)
        omega
      have hz : 0 ≤ c.addr / 2 ^ (n + 14) ∧ c.addr / 2 ^ (n + 14) < 4611686018427387904 := by
        refine ⟨Int.ediv_nonneg ha.1 (by omega), Int.ediv_lt_of_lt_mul (by omega) ?_⟩
        have : 4611686018427387904 * (16384 : Int) ≤ 4611686018427387904 * 2 ^ (n + 14) := Int.mul_le_mul_of_nonneg_left hq (by decide)
        omega
      exact ⟨iCv_i (by omega) (by omega), rfl⟩
    have hz : 0 ≤ c.addr / 2 ^ (n + 14) ∧ c.addr / 2 ^ (n + 14) < 4611686018427387904 := by
      unfold inU at ha
      have hq : (16384 : Int) ≤ 2 ^ (n + 14) := by
        rw [Int.pow_add]
        have : (0 : Int) < 2 ^ n := Int.pow_pos (by decide)
        omega
      refine ⟨Int.ediv_nonneg ha.1 (by omega), Int.ediv_lt_of_lt_mul (by omega) ?_⟩
      have : 4611686018427387904 * (16384 : Int) ≤ 4611686018427387904 * 2 ^ (n + 14) := Int.mul_le_mul_of_nonneg_left hq (by decide)
      omega
    rw [hup.1, hup.2]
    exact all _ hz.1 hz.2

end

theorem within_t {n h : Int} : within n h = true ↔ 0 ≤ n ∧ n ≤ h := by
  unfold within
  cases e : iLe 0 n with
  | true => rw [cond_true, iLe_t]; rw [iLe_t] at e; omega
  | false => rw [cond_false]; rw [iLe_f] at e; exact ⟨fun h' => (by cases h'), fun h' => (by omega)⟩

/-- A right capability's numbers are in their places. -/
theorem right_facts {c : Cap} (h : right c = true) : 0 ≤ c.e ∧ c.e ≤ 52 ∧ 0 ≤ c.b ∧ c.b ≤ 16383 ∧ 0 ≤ c.t ∧ c.t ≤ 4095 ∧ 0 ≤ c.perms ∧ c.perms ≤ 65535 ∧ 0 ≤ c.type ∧ c.type ≤ 262143 := by
  unfold right at h
  simp only [bNot_eq] at h
  cases h1 : within c.perms 65535 <;> rw [h1] at h <;> first | cases h | skip
  cases h2 : within c.type 262143 <;> rw [h2] at h <;> first | cases h | skip
  cases h3 : within c.mode 1 <;> rw [h3] at h <;> first | cases h | skip
  cases h4 : within c.b 16383 <;> rw [h4] at h <;> first | cases h | skip
  cases h5 : within c.t 4095 <;> rw [h5] at h <;> first | cases h | skip
  rw [within_t] at h1 h2 h4 h5
  cases hb : c.big <;> rw [hb] at h
  · have h : iEq c.e 0 = true := h
    rw [iEq_t] at h; omega
  · cases h6 : within c.e 52 <;> rw [h6] at h <;> first | cases h | skip
    rw [within_t] at h6; omega

theorem right_bOk {c : Cap} (h : right c = true) (ha : inU c.addr) : bOk c := by
  have := right_facts h
  exact ⟨by omega, by omega, by omega, by omega, by omega, by omega, ha⟩
theorem right_eOk {c : Cap} (h : right c = true) : eOk c := by have := right_facts h; unfold eOk; omega

/-- Moving a right capability is the same by the program and by the document's answer. -/
theorem bMove_rMove {c : Cap} (h : bOk c) {a : Int} (ha : inU a) : bMove c a = rMove c a := by
  have h1 : bFits c a = rFits c a := by
    unfold bFits rFits
    rw [bOf_rOf (c := { c with addr := a }) ⟨h.e0, h.e1, h.b0, h.b1, h.t0, h.t1, ha⟩, bOf_rOf h]
    unfold rngEq
    exact decide_eq_decide.2 ⟨Eq.symm, Eq.symm⟩
  unfold bMove rMove keep
  rw [h1]
  cases hc : c.tag <;> cases hs : bNot (sealed c) <;> rfl

end Go.Mir

namespace Go.Mir


theorem rightXs_t : ∀ (k i : Nat) (h : Hart) (r : Bool), rightXs k i h r = true → (∀ j, i ≤ j → j < i + k → right (h.x j) = true) ∧ r = true
  | 0, i, h, r, e => ⟨fun j h1 h2 => by omega, e⟩
  | k + 1, i, h, r, e => by
    simp only [rightXs, bNot_eq] at e
    cases hr : right (h.x i) with
    | false => rw [hr] at e; cases e
    | true =>
      rw [hr] at e
      obtain ⟨h1, h2⟩ := rightXs_t k (i + 1) h r e
      refine ⟨fun j g1 g2 => ?_, h2⟩
      by_cases e : j = i
      · subst e; exact hr
      · exact h1 j (by omega) (by omega)
theorem rightXs_of : ∀ (k i : Nat) (h : Hart) (r : Bool), (∀ j, i ≤ j → j < i + k → right (h.x j) = true) → rightXs k i h r = r
  | 0, i, h, r, e => rfl
  | k + 1, i, h, r, e => by
    simp only [rightXs, bNot_eq]
    rw [e i (Nat.le_refl _) (by omega)]
    exact rightXs_of k (i + 1) h r fun j g1 g2 => e j (by omega) (by omega)
theorem rightCs_t : ∀ (l : List Cap) (r : Bool), rightCs l r = true → (∀ c ∈ l, right c = true) ∧ r = true
  | [], r, e => ⟨fun c h => (by cases h), e⟩
  | c :: l, r, e => by
    simp only [rightCs, bNot_eq] at e
    cases hr : right c with
    | false => rw [hr] at e; cases e
    | true =>
      rw [hr] at e
      obtain ⟨h1, h2⟩ := rightCs_t l r e
      exact ⟨fun d hd => (List.mem_cons.1 hd).elim (fun e => e ▸ hr) (h1 d), h2⟩
theorem rightCs_of : ∀ (l : List Cap) (r : Bool), (∀ c ∈ l, right c = true) → rightCs l r = r
  | [], r, e => rfl
  | c :: l, r, e => by
    simp only [rightCs, bNot_eq]
    rw [e c (by simp)]
    exact rightCs_of l r fun d hd => e d (by simp [hd])

def capsOf (h : Hart) : List Cap := [h.pcc, h.ddc, h.stcc, h.stdc, h.sscr, h.sepcc, h.mtcc, h.mtdc, h.mscr, h.mepcc]

/-- What is known of a right hart. -/
structure HRt (h : Hart) : Prop where
  x : ∀ j, j < 32 → right (h.x j) = true
  x0 : h.x 0 = number 0
  caps : ∀ c ∈ capsOf h, right c = true
  priv : h.priv = 0 ∨ h.priv = 1 ∨ h.priv = 3

theorem privB (p : Int) : (bif iEq p 0 then true else bif iEq p 1 then true else iEq p 3) = true ↔ p = 0 ∨ p = 1 ∨ p = 3 := by
  by_cases h0 : p = 0
  · subst h0; rw [show iEq 0 0 = true from iEq_t.2 rfl]; simp
  · rw [show iEq p 0 = false from iEq_f.2 h0]
    by_cases h1 : p = 1
    · subst h1; rw [show iEq 1 1 = true from iEq_t.2 rfl]; simp
    · rw [show iEq p 1 = false from iEq_f.2 h1]
      simp only [cond_false, iEq_t]
      omega

theorem hartRight_iff (h : Hart) : hartRight h = true ↔ HRt h := by
  constructor
  · intro e
    unfold hartRight at e
    simp only [bNot_eq] at e
    cases h0 : right (h.x 0) <;> rw [h0] at e <;> first | cases e | skip
    cases h1 : capEq (h.x 0) (number 0) <;> rw [h1] at e <;> first | cases e | skip
    have e : rightXs 31 1 h _ = true := e
    obtain ⟨e1, e2⟩ := rightXs_t _ _ _ _ e
    obtain ⟨e3, e4⟩ := rightCs_t _ _ e2
    refine ⟨fun j hj => ?_, ?_, e3, (privB _).1 e4⟩
    · by_cases e : j = 0
      · subst e; exact h0
      · exact e1 j (by omega) (by omega)
    · unfold capEq at h1; exact of_decide_eq_true h1
  · intro ⟨e1, e2, e3, e4⟩
    unfold hartRight
    rw [bNot_eq, bNot_eq, e1 0 (by decide), show capEq (h.x 0) (number 0) = true by unfold capEq; exact decide_eq_true e2]
    show rightXs 31 1 h _ = true
    rw [rightXs_of 31 1 h _ fun j h1 h2 => e1 j (by omega)]
    exact (rightCs_of (capsOf h) _ e3).trans ((privB _).2 e4)

theorem HRt.four {h : Hart} (r : HRt h) : fourOk h :=
  ⟨right_eOk (r.caps _ (by simp [capsOf])), right_eOk (r.caps _ (by simp [capsOf])), right_eOk (r.caps _ (by simp [capsOf])), right_eOk (r.caps _ (by simp [capsOf]))⟩

/-! ### Is there a register? -/
theorem last_there {α : Type} (n : Int) (x y : α) :
    last n x y = bif (bif iLe 0x3A0 n then bif iLe n 0x3EF then true else bif iLe 0xF11 n then iLe n 0xF14 else false else bif iLe 0xF11 n then iLe n 0xF14 else false) then x else y := by
  unfold last tl
  rw [bNot_eq]
  cases iLe 928 n <;> cases iLe n 1007 <;> cases iLe 3857 n <;> cases iLe n 3860 <;> rfl

theorem tab_there {α : Type} (n : Int) (x y : α) : tab n x y = bif there n then x else y := by
  unfold tab two
  rw [last_there]
  unfold there isIn isIn isIn isIn isIn isIn isIn isIn isIn isIn isIn isIn isIn isIn isIn isIn isIn isIn isIn isIn isIn isIn isIn isIn isIn isIn isIn isIn
  generalize (bif iLe 0x3A0 n then bif iLe n 0x3EF then true else bif iLe 0xF11 n then iLe n 0xF14 else false else bif iLe 0xF11 n then iLe n 0xF14 else false) = b
  rw [iEq_comm 256 n]
  rw [iEq_comm 260 n]
  rw [iEq_comm 261 n]
  rw [iEq_comm 262 n]
  rw [iEq_comm 320 n]
  rw [iEq_comm 321 n]
  rw [iEq_comm 322 n]
  rw [iEq_comm 323 n]
  rw [iEq_comm 324 n]
  rw [iEq_comm 384 n]
  rw [iEq_comm 768 n]
  rw [iEq_comm 769 n]
  rw [iEq_comm 770 n]
  rw [iEq_comm 771 n]
  rw [iEq_comm 772 n]
  rw [iEq_comm 773 n]
  rw [iEq_comm 774 n]
  rw [iEq_comm 832 n]
  rw [iEq_comm 833 n]
  rw [iEq_comm 834 n]
  rw [iEq_comm 835 n]
  rw [iEq_comm 836 n]
  rw [iEq_comm 2816 n]
  rw [iEq_comm 2818 n]
  rw [iEq_comm 3072 n]
  rw [iEq_comm 3073 n]
  rw [iEq_comm 3074 n]
  cases iEq n 256
  rotate_left
  · rfl
  cases iEq n 260
  rotate_left
  · rfl
  cases iEq n 261
  rotate_left
  · rfl
  cases iEq n 262
  rotate_left
  · rfl
  cases iEq n 320
  rotate_left
  · rfl
  cases iEq n 321
  rotate_left
  · rfl
  cases iEq n 322
  rotate_left
  · rfl
  cases iEq n 323
  rotate_left
  · rfl
  cases iEq n 324
  rotate_left
  · rfl
  cases iEq n 384
  rotate_left
  · rfl
  cases iEq n 768
  rotate_left
  · rfl
  cases iEq n 769
  rotate_left
  · rfl
  cases iEq n 770
  rotate_left
  · rfl
  cases iEq n 771
  rotate_left
  · rfl
  cases iEq n 772
  rotate_left
  · rfl
  cases iEq n 773
  rotate_left
  · rfl
  cases iEq n 774
  rotate_left
  · rfl
  cases iEq n 832
  rotate_left
  · rfl
  cases iEq n 833
  rotate_left
  · rfl
  cases iEq n 834
  rotate_left
  · rfl
  cases iEq n 835
  rotate_left
  · rfl
  cases iEq n 836
  rotate_left
  · rfl
  cases iEq n 2816 <;> cases iEq n 2818 <;> cases iEq n 3072 <;> cases iEq n 3073 <;> cases iEq n 3074 <;> cases b <;> rfl

theorem isIn_bounds : ∀ (l : List Int) (n : Int) (r : Bool), isIn l n r = true → n ∈ l ∨ r = true
  | [], n, r, h => .inr h
  | a :: l, n, r, h => by
    unfold isIn at h
    cases e : iEq a n with
    | true => rw [iEq_t] at e; exact .inl (by simp [e])
    | false =>
      rw [e] at h
      rcases isIn_bounds l n r h with h | h
      · exact .inl (by simp [h])
      · exact .inr h

theorem there_bounds {n : Int} (h : there n = true) : 256 ≤ n ∧ n ≤ 3860 := by
  unfold there at h
  rcases isIn_bounds _ _ _ h with h | h
  · simp only [List.mem_cons, List.not_mem_nil, or_false] at h
    omega
  · cases h1 : iLe 928 n <;> cases h2 : iLe n 1007 <;> cases h3 : iLe 3857 n <;> rw [h1] at h <;> first | rw [h2] at h | skip
    all_goals first | rw [h3] at h | skip
    all_goals first | (rw [iLe_t] at h1 h2; omega) | (cases h; done) | (have h : iLe n 3860 = true := h; rw [iLe_t] at h h3; omega)

theorem lvl_eq {n : Int} (h : 0 ≤ n) (h' : n < 9223372036854775808) : lvl n = n / 256 % 4 ∧ rLvl n = n / 256 % 4 := by
  unfold lvl rLvl
  rw [show (8 : Int) = ((8 : Nat) : Int) from rfl, iShr_n _ _ 8 (by decide), iAnd_i_low _ 2 (by decide) (by decide), iQuo_i h (by decide) h', iRem_n (by omega)]
  exact ⟨rfl, rfl⟩

theorem readOnly_eq {n : Int} (h : 0 ≤ n) (h' : n < 4096) : readOnly n = iEq (iQuo .i64 n 1024) 3 := by
  unfold readOnly
  rw [show (10 : Int) = ((10 : Nat) : Int) from rfl, iShr_n _ _ 10 (by decide), iAnd_i_low _ 2 (by decide) (by decide), iQuo_i h (by decide) (by omega)]
  rw [show n / 2 ^ 10 % 2 ^ 2 = n / 1024 by omega]

theorem bit_eq {a : Int} (h : inU a) (k : Nat) (hk : k < 64) : bNot (iEq (iAnd .u64 a ((2 ^ k : Nat) : Int)) 0) = rBit a (k : Int) := by
  unfold rBit
  rw [bit_u h k hk, iCv_u, show (k : Int) % 18446744073709551616 = (k : Int) by omega, iShr_n _ _ k (by have : IntKind.u64.bits = 64 := rfl; omega), iRem_n (Int.ediv_nonneg h.1 (Int.le_of_lt (Int.pow_pos (by decide))))]
  have hp : (0 : Int) < 2 ^ k := Int.pow_pos (by decide)
  have hm : a / 2 ^ k % 2 = 0 ∨ a / 2 ^ k % 2 = 1 := by omega
  rcases hm with e | e
  · rw [e, Int.zero_mul]; rw [show iEq 0 0 = true from iEq_t.2 rfl, show iEq 0 1 = false from iEq_f.2 (by decide), bNot_eq]; rfl
  · rw [e, Int.one_mul]; rw [show iEq (2 ^ k) 0 = false from iEq_f.2 (by omega), show iEq 1 1 = true from iEq_t.2 rfl, bNot_eq]; rfl

/-! ### Who may -/
theorem may_eq {h : Hart} (ty : HTy h) (rt : HRt h) (n : Int) (w : Bool) : bMay h n w = rMay h n w := by
  unfold bMay rMay
  rw [tab_there, bNot_eq]
  cases ht : there n with
  | false => rfl
  | true =>
    have hb := there_bounds ht
    obtain ⟨l1, l2⟩ := lvl_eq (n := n) (by omega) (by omega)
    have hr := readOnly_eq (n := n) (by omega) (by omega)
    simp only [cond_true, Bool.not_true, cond_false]
    have hp : 0 ≤ h.pcc.perms ∧ h.pcc.perms ≤ 65535 := by
      have := right_facts (rt.caps h.pcc (by simp [capsOf]))
      omega
    have hend : mayEnd h n = rMayEnd h n := by
      unfold mayEnd rMayEnd
      rw [l1, l2]
      have e1 : iLt 0 (n / 256 % 4) = bNot (iEq (n / 256 % 4) 0) := by
        rw [bNot_eq]
        cases hx : iEq (n / 256 % 4) 0 with
        | true => rw [iEq_t] at hx; exact iLt_f.2 (by omega)
        | false => rw [iEq_f] at hx; exact iLt_t.2 (by omega)
      have e2 : iEq (iAnd .i64 h.pcc.perms 512) 0 = iEq (iRem (iQuo .i64 h.pcc.perms 512) 2) 0 := by
        have hq : iAnd .i64 h.pcc.perms 512 = h.pcc.perms / 512 % 2 * 512 := by
          have := bit_u (a := h.pcc.perms) (by unfold inU; omega) 9 (by decide)
          have hi : iAnd .i64 h.pcc.perms 512 = iAnd .u64 h.pcc.perms 512 := by
            rw [iAnd_u]
            unfold iAnd
            show IntKind.i64.wrap (((BitVec.ofInt 64 h.pcc.perms &&& BitVec.ofInt 64 512).toNat : Nat) : Int) = _
            rw [BitVec.toNat_and, ofInt_toNat_u, ofInt_toNat_u]
            have h1 : (h.pcc.perms % 18446744073709551616).toNat &&& ((512 : Int) % 18446744073709551616).toNat ≤ ((512 : Int) % 18446744073709551616).toNat := Nat.and_le_right
            generalize (h.pcc.perms % 18446744073709551616).toNat &&& ((512 : Int) % 18446744073709551616).toNat = z at *
            rw [i64_wrap (by omega) (by omega)]
          rw [hi]
          exact this
        rw [hq, iQuo_i hp.1 (by decide) (by omega), iRem_n (by omega)]
        have hm : h.pcc.perms / 512 % 2 = 0 ∨ h.pcc.perms / 512 % 2 = 1 := by omega
        rcases hm with e | e <;> rw [e] <;> first | rfl | (rw [show iEq (1 * 512) 0 = false from iEq_f.2 (by decide), show iEq 1 0 = false from iEq_f.2 (by decide)])
      rw [e1, e2]
    have hcnt : mayCnt h n = rMayCnt h n := by
      unfold mayCnt rMayCnt
      rw [hend]
      cases h1 : iLe 3072 n with
      | false => rfl
      | true =>
        cases h2 : iLe n 3074 with
        | false => rfl
        | true =>
          rw [iLe_t] at h1 h2
          obtain ⟨k, hk, hk'⟩ : ∃ k : Nat, n - 3072 = (k : Int) ∧ k < 3 := ⟨(n - 3072).toNat, by omega, by omega⟩
          have e1 : iSub .i64 n 3072 = (k : Int) := by rw [iSub_i (by omega) (by omega), hk]
          have e2 : cBit n = ((2 ^ k : Nat) : Int) := by
            unfold cBit
            rw [iAnd_i_low _ 2 (by decide) (by decide), show n % 2 ^ 2 = (k : Int) by omega, iShl_u _ _ (by omega), Int.one_mul]
            have hk3 : k = 0 ∨ k = 1 ∨ k = 2 := by omega
            rcases hk3 with rfl | rfl | rfl <;> decide
          unfold counted rMayS
          rw [e1, e2, ← bit_eq ty.mcounteren k (by omega), ← bit_eq ty.scounteren k (by omega)]
          simp only [bNot_eq, Bool.not_not]
          cases iLt h.priv 3 <;> cases iEq (iAnd .u64 h.mcounteren ((2 ^ k : Nat) : Int)) 0 <;> cases iEq h.priv 0 <;> cases iEq (iAnd .u64 h.scounteren ((2 ^ k : Nat) : Int)) 0 <;> rfl
    have hrest : mayRest h n = rMayRest h n := by
      unfold mayRest rMayRest
      rw [hcnt, show (1048576 : Int) = ((2 ^ 20 : Nat) : Int) from rfl, bit_eq ty.mstatus 20 (by decide)]
      rfl
    unfold mayT
    rw [hr, l1, l2, hrest]
    cases iLt h.priv (n / 256 % 4) <;> cases w <;> rfl

/-! ### Reading -/
theorem and_bn (x : BitVec 64) (b : Int) : iAnd .u64 (bn x) b = bn (x &&& bv b) := by rw [and_bv, bv_bn]
theorem or_disj (a m c : Int) (h : bv m &&& bv c = 0#64) : iOr .u64 (iAnd .u64 a m) c = iAdd .u64 (iAnd .u64 a m) c := by
  rw [or_bv, add_bv, and_bv, bv_bn, or_add]
  rw [BitVec.and_assoc, h, BitVec.and_zero]

theorem low_rem {a : Int} (h : inU a) : iAnd .u64 a 7 = iRem a 8 := by
  rw [iAnd_u_low _ 3 (by decide) (by decide), iRem_n h.1]; rfl
theorem and_assoc3 (a b c : Int) : iAnd .u64 a (iAnd .u64 b c) = iAnd .u64 (iAnd .u64 a b) c := by
  rw [and_bv, and_bv, and_bv, and_bv, bv_bn, bv_bn, BitVec.and_assoc]
theorem two_disj (a : Int) : iOr .u64 (iOr .u64 (iAnd .u64 a 8264106) 8589934592) 34359738368 = iAdd .u64 (iAdd .u64 (iAnd .u64 a 8264106) 8589934592) 34359738368 := by
  rw [or_disj _ _ _ (by decide)]
  rw [or_bv, add_bv (iAdd .u64 (iAnd .u64 a 8264106) 8589934592) 34359738368, add_bv, bv_bn, and_bv, bv_bn]
  have h1 : bv a &&& bv 8264106 &&& bv 8589934592 = 0#64 := by rw [BitVec.and_assoc, show bv 8264106 &&& bv 8589934592 = 0#64 by decide, BitVec.and_zero]
  rw [← or_add h1]
  have h2 : (bv a &&& bv 8264106 ||| bv 8589934592) &&& bv 34359738368 = 0#64 := by
    rw [BitVec.and_comm, BitVec.and_or_distrib_left, BitVec.and_comm (bv 34359738368), BitVec.and_assoc, show bv 8264106 &&& bv 34359738368 = 0#64 by decide, show bv 34359738368 &&& bv 8589934592 = 0#64 by decide, BitVec.and_zero]
    rfl
  rw [or_add h2]

theorem read_eq {h : Hart} (ty : HTy h) (n t l : Int) : bRead h n t l = rRead h n t l := by
  have ht : tab n true false = there n := by rw [tab_there]; cases there n <;> rfl
  unfold bRead rRead
  unfold tab at ht
  cases h256 : iEq n 256
  rotate_left
  · simp only [h256, cond_true]
    exact congrArg (fun z => (z, true, ())) (or_disj _ _ _ (by decide))
  simp only [h256, cond_false] at ht ⊢
  cases h260 : iEq n 260
  rotate_left
  · simp only [h260, cond_true]
    exact congrArg (fun z => (z, true, ())) (and_assoc3 _ _ _)
  simp only [h260, cond_false] at ht ⊢
  cases h261 : iEq n 261
  rotate_left
  · simp only [h261, cond_true]
    try rfl
  simp only [h261, cond_false] at ht ⊢
  cases h262 : iEq n 262
  rotate_left
  · simp only [h262, cond_true]
    exact congrArg (fun z => (z, true, ())) (low_rem ty.scounteren)
  simp only [h262, cond_false] at ht ⊢
  cases h320 : iEq n 320
  rotate_left
  · simp only [h320, cond_true]
    exact congrArg (fun z => (z, true, ())) (and_all ty.sscratch)
  simp only [h320, cond_false] at ht ⊢
  cases h321 : iEq n 321
  rotate_left
  · simp only [h321, cond_true]
    try rfl
  simp only [h321, cond_false] at ht ⊢
  cases h322 : iEq n 322
  rotate_left
  · simp only [h322, cond_true]
    exact congrArg (fun z => (z, true, ())) (and_all ty.scause)
  simp only [h322, cond_false] at ht ⊢
  cases h323 : iEq n 323
  rotate_left
  · simp only [h323, cond_true]
    exact congrArg (fun z => (z, true, ())) (and_all ty.stval)
  simp only [h323, cond_false] at ht ⊢
  cases h324 : iEq n 324
  rotate_left
  · simp only [h324, cond_true]
    exact congrArg (fun z => (z, true, ())) (and_assoc3 _ _ _)
  simp only [h324, cond_false] at ht ⊢
  cases h384 : iEq n 384
  rotate_left
  · simp only [h384, cond_true]
    try rfl
  simp only [h384, cond_false] at ht ⊢
  cases h768 : iEq n 768
  rotate_left
  · simp only [h768, cond_true]
    exact congrArg (fun z => (z, true, ())) (two_disj _)
  simp only [h768, cond_false] at ht ⊢
  cases h769 : iEq n 769
  rotate_left
  · simp only [h769, cond_true]
    try rfl
  simp only [h769, cond_false] at ht ⊢
  cases h770 : iEq n 770
  rotate_left
  · simp only [h770, cond_true]
    try rfl
  simp only [h770, cond_false] at ht ⊢
  cases h771 : iEq n 771
  rotate_left
  · simp only [h771, cond_true]
    try rfl
  simp only [h771, cond_false] at ht ⊢
  cases h772 : iEq n 772
  rotate_left
  · simp only [h772, cond_true]
    try rfl
  simp only [h772, cond_false] at ht ⊢
  cases h773 : iEq n 773
  rotate_left
  · simp only [h773, cond_true]
    try rfl
  simp only [h773, cond_false] at ht ⊢
  cases h774 : iEq n 774
  rotate_left
  · simp only [h774, cond_true]
    exact congrArg (fun z => (z, true, ())) (low_rem ty.mcounteren)
  simp only [h774, cond_false] at ht ⊢
  cases h832 : iEq n 832
  rotate_left
  · simp only [h832, cond_true]
    exact congrArg (fun z => (z, true, ())) (and_all ty.mscratch)
  simp only [h832, cond_false] at ht ⊢
  cases h833 : iEq n 833
  rotate_left
  · simp only [h833, cond_true]
    try rfl
  simp only [h833, cond_false] at ht ⊢
  cases h834 : iEq n 834
  rotate_left
  · simp only [h834, cond_true]
    exact congrArg (fun z => (z, true, ())) (and_all ty.mcause)
  simp only [h834, cond_false] at ht ⊢
  cases h835 : iEq n 835
  rotate_left
  · simp only [h835, cond_true]
    exact congrArg (fun z => (z, true, ())) (and_all ty.mtval)
  simp only [h835, cond_false] at ht ⊢
  cases h836 : iEq n 836
  rotate_left
  · simp only [h836, cond_true]
    try rfl
  simp only [h836, cond_false] at ht ⊢
  rw [and_all ty.cycle, and_all ty.instret]
  unfold two at ht ⊢
  cases h1 : iEq n 2816 <;> cases h2 : iEq n 3072 <;> cases h3 : iEq n 2818 <;> cases h4 : iEq n 3074 <;> cases h5 : iEq n 3073 <;> simp only [h1, h2, h3, h4, h5, cond_true, cond_false] at ht ⊢
  have hl : last n ((0 : Int), true, ()) (0, false, ()) = (0, last n true false, ()) := by
    unfold last tl
    cases iLe 928 n <;> cases iLe n 1007 <;> cases iLe 3857 n <;> cases bNot (iLe n 3860) <;> rfl
  rw [hl, ht]

/-! ### Writing -/
theorem lay_eq (a t m : Int) : iOr .u64 (iAndNot .u64 a m) (iAnd .u64 t m) = rLay a t m := by
  unfold rLay
  rw [or_bv, andNot_bv, and_bv, add_bv, sub_bv, and_bv, bv_bn, bv_bn, bv_bn, bv_bn, lay_bv]
theorem andNot_sub (t m : Int) : iAndNot .u64 t m = iSub .u64 t (iAnd .u64 t m) := by
  rw [andNot_bv, sub_bv, and_bv, bv_bn, and_not_sub]
theorem rem_and {t : Int} (h : inU t) : iRem t 2 = iAnd .u64 t 1 := by
  rw [iAnd_u_low _ 1 (by decide) (by decide), iRem_n h.1]; rfl
theorem mpp_eq {t : Int} (h : inU t) : iAnd .u64 (iShr .u64 (iAnd .u64 t 8264106) 11) 3 = iRem (iShr .u64 t 11) 4 := by
  have h1 : iRem (iShr .u64 t 11) 4 = iAnd .u64 (iShr .u64 t 11) 3 := by
    rw [iAnd_u_low _ 2 (by decide) (by decide), iRem_n (inU_shr h _ _).1]; rfl
  rw [h1, show (11 : Int) = ((11 : Nat) : Int) from rfl, shr_bv (inU_and _ _) 11 (by decide), shr_bv h 11 (by decide), and_bv, and_bv, and_bv, bv_bn, bv_bn, bv_bn, BitVec.ushiftRight_and_distrib, BitVec.and_assoc,
    show bv 8264106 >>> 11 &&& bv 3 = bv 3 by decide]
theorem mpp_v (t : Int) : iAndNot .u64 (iAnd .u64 t 8264106) 6144 = iAnd .u64 t 8257962 := by
  rw [andNot_bv, and_bv, and_bv, bv_bn, BitVec.and_assoc, show bv 8264106 &&& ~~~ bv 6144 = bv 8257962 by decide]
theorem and_comm2 (a b : Int) : iAnd .u64 a b = iAnd .u64 b a := by rw [and_bv, and_bv, BitVec.and_comm]

theorem write_eq {h : Hart} (ty : HTy h) (rt : HRt h) (n : Int) {t : Int} (hT : inU t) : bWrite h n t = rWrite h n t := by
  have ht : tab n true false = there n := by rw [tab_there]; cases there n <;> rfl
  have b1 : bMove h.stcc (iAndNot .u64 t 2) = rMove h.stcc (iSub .u64 t (iAnd .u64 t 2)) := by
    rw [bMove_rMove (right_bOk (rt.caps _ (by simp [capsOf])) ty.stcc.addr) (inU_andNot _ _), andNot_sub]
  have b2 : bMove h.mtcc (iAndNot .u64 t 2) = rMove h.mtcc (iSub .u64 t (iAnd .u64 t 2)) := by
    rw [bMove_rMove (right_bOk (rt.caps _ (by simp [capsOf])) ty.mtcc.addr) (inU_andNot _ _), andNot_sub]
  have b3 : bMove h.sepcc (iAndNot .u64 t 1) = rMove h.sepcc (iSub .u64 t (iRem t 2)) := by
    rw [bMove_rMove (right_bOk (rt.caps _ (by simp [capsOf])) ty.sepcc.addr) (inU_andNot _ _), andNot_sub, rem_and hT]
  have b4 : bMove h.mepcc (iAndNot .u64 t 1) = rMove h.mepcc (iSub .u64 t (iRem t 2)) := by
    rw [bMove_rMove (right_bOk (rt.caps _ (by simp [capsOf])) ty.mepcc.addr) (inU_andNot _ _), andNot_sub, rem_and hT]
  have key : bWrite h n t = bif there n then bif readOnly n then no_ h else rWr h n t else no_ h := by
    unfold bWrite rWr
    unfold tab at ht
    rw [and_all hT, low_rem hT, mpp_eq hT, mpp_v, b1, b2, b3, b4, lay_eq, lay_eq, lay_eq, and_comm2 2]
    unfold delegated
    cases h256 : iEq n 256
    rotate_left
    · simp only [h256, cond_true] at ht ⊢
      rw [← ht]
      rfl
    simp only [h256, cond_false] at ht ⊢
    cases h260 : iEq n 260
    rotate_left
    · simp only [h260, cond_true] at ht ⊢
      rw [← ht]
      rfl
    simp only [h260, cond_false] at ht ⊢
    cases h261 : iEq n 261
    rotate_left
    · simp only [h261, cond_true] at ht ⊢
      rw [← ht]
      rfl
    simp only [h261, cond_false] at ht ⊢
    cases h262 : iEq n 262
    rotate_left
    · simp only [h262, cond_true] at ht ⊢
      rw [← ht]
      rfl
    simp only [h262, cond_false] at ht ⊢
    cases h320 : iEq n 320
    rotate_left
    · simp only [h320, cond_true] at ht ⊢
      rw [← ht]
      rfl
    simp only [h320, cond_false] at ht ⊢
    cases h321 : iEq n 321
    rotate_left
    · simp only [h321, cond_true] at ht ⊢
      rw [← ht]
      rfl
    simp only [h321, cond_false] at ht ⊢
    cases h322 : iEq n 322
    rotate_left
    · simp only [h322, cond_true] at ht ⊢
      rw [← ht]
      rfl
    simp only [h322, cond_false] at ht ⊢
    cases h323 : iEq n 323
    rotate_left
    · simp only [h323, cond_true] at ht ⊢
      rw [← ht]
      rfl
    simp only [h323, cond_false] at ht ⊢
    cases h324 : iEq n 324
    rotate_left
    · simp only [h324, cond_true] at ht ⊢
      rw [← ht]
      rfl
    simp only [h324, cond_false] at ht ⊢
    cases h384 : iEq n 384
    rotate_left
    · simp only [h384, cond_true] at ht ⊢
      rw [← ht]
      rfl
    simp only [h384, cond_false] at ht ⊢
    cases h768 : iEq n 768
    rotate_left
    · simp only [h768, cond_true] at ht ⊢
      rw [← ht]
      rfl
    simp only [h768, cond_false] at ht ⊢
    cases h769 : iEq n 769
    rotate_left
    · simp only [h769, cond_true] at ht ⊢
      rw [← ht]
      rw [iEq_t] at h769; subst h769; kernel_rfl
    simp only [h769, cond_false] at ht ⊢
    cases h770 : iEq n 770
    rotate_left
    · simp only [h770, cond_true] at ht ⊢
      rw [← ht]
      rfl
    simp only [h770, cond_false] at ht ⊢
    cases h771 : iEq n 771
    rotate_left
    · simp only [h771, cond_true] at ht ⊢
      rw [← ht]
      rfl
    simp only [h771, cond_false] at ht ⊢
    cases h772 : iEq n 772
    rotate_left
    · simp only [h772, cond_true] at ht ⊢
      rw [← ht]
      rfl
    simp only [h772, cond_false] at ht ⊢
    cases h773 : iEq n 773
    rotate_left
    · simp only [h773, cond_true] at ht ⊢
      rw [← ht]
      rfl
    simp only [h773, cond_false] at ht ⊢
    cases h774 : iEq n 774
    rotate_left
    · simp only [h774, cond_true] at ht ⊢
      rw [← ht]
      rfl
    simp only [h774, cond_false] at ht ⊢
    cases h832 : iEq n 832
    rotate_left
    · simp only [h832, cond_true] at ht ⊢
      rw [← ht]
      rfl
    simp only [h832, cond_false] at ht ⊢
    cases h833 : iEq n 833
    rotate_left
    · simp only [h833, cond_true] at ht ⊢
      rw [← ht]
      rfl
    simp only [h833, cond_false] at ht ⊢
    cases h834 : iEq n 834
    rotate_left
    · simp only [h834, cond_true] at ht ⊢
      rw [← ht]
      rfl
    simp only [h834, cond_false] at ht ⊢
    cases h835 : iEq n 835
    rotate_left
    · simp only [h835, cond_true] at ht ⊢
      rw [← ht]
      rfl
    simp only [h835, cond_false] at ht ⊢
    cases h836 : iEq n 836
    rotate_left
    · simp only [h836, cond_true] at ht ⊢
      rw [← ht]
      rfl
    simp only [h836, cond_false] at ht ⊢
    unfold two at ht ⊢
    cases h1 : iEq n 2816
    rotate_left
    · simp only [h1, cond_true] at ht ⊢
      rw [← ht]; rfl
    cases h2 : iEq n 3072
    rotate_left
    · have hr : readOnly n = true := by rw [iEq_t] at h2; subst h2; decide +kernel
      simp only [h1, h2, hr, cond_true, cond_false] at ht ⊢
      rw [← ht]; rfl
    simp only [h1, h2, cond_false] at ht ⊢
    cases h3 : iEq n 2818
    rotate_left
    · simp only [h3, cond_true] at ht ⊢
      rw [← ht]; rfl
    cases h4 : iEq n 3074
    rotate_left
    · have hr : readOnly n = true := by rw [iEq_t] at h4; subst h4; decide +kernel
      simp only [h3, h4, hr, cond_true, cond_false] at ht ⊢
      rw [← ht]; rfl
    simp only [h3, h4, cond_false] at ht ⊢
    cases h5 : iEq n 3073
    rotate_left
    · have hr : readOnly n = true := by rw [iEq_t] at h5; subst h5; decide +kernel
      simp only [h5, hr, cond_true, cond_false] at ht ⊢
      rw [← ht]; rfl
    simp only [h5, cond_false] at ht ⊢
    have hl : last n (bif readOnly n then no_ h else (true, h, ())) (no_ h) = bif last n true false then (bif readOnly n then no_ h else (true, h, ())) else no_ h := by
      unfold last tl
      cases iLe 928 n <;> cases iLe n 1007 <;> cases iLe 3857 n <;> cases bNot (iLe n 3860) <;> rfl
    rw [hl, ht]
  rw [key]
  unfold rWrite
  rw [bNot_eq]
  cases hh : there n with
  | false => rfl
  | true =>
    have hb := there_bounds hh
    rw [readOnly_eq (by omega) (by omega)]
    rfl

end Go.Mir

namespace Go.Mir
open Go.Proofs

set_option maxRecDepth 100000

/-- Are two harts one? -/
def hEq (a b : Hart) : Bool := (bAnd (allN 32 fun i => capEq (a.x i) (b.x i)) (bAnd (capEq a.pcc b.pcc) (bAnd (capEq a.ddc b.ddc) (bAnd (capEq a.stcc b.stcc) (bAnd (capEq a.stdc b.stdc) (bAnd (capEq a.sscr b.sscr) (bAnd (capEq a.sepcc b.sepcc) (bAnd (capEq a.mtcc b.mtcc) (bAnd (capEq a.mtdc b.mtdc) (bAnd (capEq a.mscr b.mscr) (bAnd (capEq a.mepcc b.mepcc) (bAnd (iEq a.priv b.priv) (bAnd (iEq a.mstatus b.mstatus) (bAnd (iEq a.medeleg b.medeleg) (bAnd (iEq a.mideleg b.mideleg) (bAnd (iEq a.mie b.mie) (bAnd (iEq a.mip b.mip) (bAnd (iEq a.mscratch b.mscratch) (bAnd (iEq a.sscratch b.sscratch) (bAnd (iEq a.mcause b.mcause) (bAnd (iEq a.scause b.scause) (bAnd (iEq a.mtval b.mtval) (bAnd (iEq a.stval b.stval) (bAnd (iEq a.satp b.satp) (bAnd (iEq a.mcounteren b.mcounteren) (bAnd (iEq a.scounteren b.scounteren) (bAnd (iEq a.cycle b.cycle) (bAnd (iEq a.instret b.instret) (bEq a.waiting b.waiting)))))))))))))))))))))))))))))
theorem hEq_self (a : Hart) : hEq a a = true := by
  unfold hEq
  simp only [bAnd_eq, bEq_eq]
  unfold capEq iEq allN
  simp

def ok32 : Prop := okN 32 fun _ => true
theorem ok32_t : ok32 := by unfold ok32 okN; decide

noncomputable def gTells (h : Hart) (n : Int) (w : Bool) (v t l : Int) : T Bool :=
  .br (bNot (hartRight h)) (.ret true) <| .br (bNot (trapEq (bMay h n w) (rMay h n w))) (.ret false) <| .need ok32 <| .br (bNot (hEq h h)) (.ret false) <|
  .br (bNot (iEq (bRead h n t l).1 (rRead h n t l).1)) (.ret false) <| .br (bNot (bEq (bRead h n t l).2.1 (rRead h n t l).2.1)) (.ret false) <| .need ok32 <| .br (bNot (hEq h h)) (.ret false) <|
  .need (fourOk h) <| .need (fourOk h) <| .br (bEq (bWrite h n v).1 (rWrite h n v).1) (.need ok32 <| .br (hEq (bWrite h n v).2.1 (rWrite h n v).2.1) (.ret true) (.ret false)) (.ret false)

theorem f3_t (h : Hart) (n : Int) (w : Bool) (v t l : Int) : runT (mkCtx csrRows psT ssL 0) Try.f3 [.v .hart, .v i64, .v .bo, .v u64, .v u64, .v u64] (.one .bo) (h, n, w, v, t, l, ()) = (gTells h n w v t l).mp fun r => (r, ()) := by kernel_rfl

theorem gTells_h {h : Hart} (ty : HTy h) (n : Int) (w : Bool) {v : Int} (hv : inU v) (t l : Int) : (gTells h n w v t l).holds fun r => r = true := by
  unfold gTells
  refine ⟨fun _ => rfl, fun hr => ?_⟩
  rw [bNot_f, hartRight_iff] at hr
  rw [may_eq ty hr, read_eq ty, write_eq ty hr n hv]
  have e1 : ∀ a : Trap, bNot (trapEq a a) = false := fun a => by rw [bNot_eq]; unfold trapEq; simp
  have e2 : bNot (hEq h h) = false := by rw [bNot_eq, hEq_self]; rfl
  have e3 : ∀ a : Int, bNot (iEq a a) = false := fun a => by rw [bNot_eq, iEq_t.2 rfl]; rfl
  have e4 : ∀ a : Bool, bEq a a = true := fun a => by rw [bEq_eq]; simp
  have no : ∀ {b : Bool} {P : Prop}, b = false → b = true → P := fun h h' => by rw [h] at h'; cases h'
  refine ⟨no (e1 _), fun _ => ⟨ok32_t, no e2, fun _ => ⟨no (e3 _), fun _ => ⟨no (by rw [bNot_eq, e4]; rfl), fun _ => ⟨ok32_t, no e2, fun _ => ⟨hr.four, hr.four, fun _ => ⟨ok32_t, fun _ => rfl, fun h' => ?_⟩, fun h' => ?_⟩⟩⟩⟩⟩⟩
  · rw [hEq_self] at h'; cases h'
  · rw [e4] at h'; cases h'

theorem f3_h {h : Hart} (ty : HTy h) (n : Int) (w : Bool) {v : Int} (hv : inU v) (t l : Int) : (runT (mkCtx csrRows psT ssL 0) Try.f3 [.v .hart, .v i64, .v .bo, .v u64, .v u64, .v u64] (.one .bo) (h, n, w, v, t, l, ())).holds fun r => r.1 = true := by
  rw [f3_t]
  exact T.mp_holds (gTells_h ty n w hv t l)

end Go.Mir

namespace Go.Mir
open Go.Proofs

set_option maxRecDepth 100000

def withPriv (h : Hart) (p : Int) : Hart := { h with priv := p }

theorem bRead_is (h : Hart) (n t l : Int) : (bRead h n t l).2.1 = there n := by
  have ht : tab n true false = there n := by rw [tab_there]; cases there n <;> rfl
  rw [← ht]
  unfold bRead tab two last tl
  cases iEq n 256
  rotate_left
  · rfl
  cases iEq n 260
  rotate_left
  · rfl
  cases iEq n 261
  rotate_left
  · rfl
  cases iEq n 262
  rotate_left
  · rfl
  cases iEq n 320
  rotate_left
  · rfl
  cases iEq n 321
  rotate_left
  · rfl
  cases iEq n 322
  rotate_left
  · rfl
  cases iEq n 323
  rotate_left
  · rfl
  cases iEq n 324
  rotate_left
  · rfl
  cases iEq n 384
  rotate_left
  · rfl
  cases iEq n 768
  rotate_left
  · rfl
  cases iEq n 769
  rotate_left
  · rfl
  cases iEq n 770
  rotate_left
  · rfl
  cases iEq n 771
  rotate_left
  · rfl
  cases iEq n 772
  rotate_left
  · rfl
  cases iEq n 773
  rotate_left
  · rfl
  cases iEq n 774
  rotate_left
  · rfl
  cases iEq n 832
  rotate_left
  · rfl
  cases iEq n 833
  rotate_left
  · rfl
  cases iEq n 834
  rotate_left
  · rfl
  cases iEq n 835
  rotate_left
  · rfl
  cases iEq n 836
  rotate_left
  · rfl
  cases iEq n 2816 <;> cases iEq n 3072 <;> cases iEq n 2818 <;> cases iEq n 3074 <;> cases iEq n 3073 <;> first | rfl | skip
  cases iLe 928 n <;> cases iLe n 1007 <;> cases iLe 3857 n <;> cases bNot (iLe n 3860) <;> rfl

theorem more_eq (h : Hart) (n : Int) (w : Bool) (p q : Int) (hpq : (p = 0 ∧ q = 1) ∨ (p = 1 ∧ q = 3)) (hl : (bMay (withPriv h p) n w).is = false) :
    (bMay (withPriv h q) n w).is = false ∧ (bMay (withPriv h p) n false).is = false ∧ (bRead (withPriv h q) n 0 0).2.1 = true := by
  rw [bRead_is]
  unfold bMay at hl ⊢
  rw [tab_there] at hl ⊢
  rw [tab_there]
  cases ht : there n with
  | false => rw [ht] at hl; cases hl
  | true =>
    rw [ht] at hl
    simp only [cond_true] at hl ⊢
    have hb := there_bounds ht
    obtain ⟨l1, _⟩ := lvl_eq (n := n) (by omega) (by omega)
    have h384 : iEq n 384 = true → lvl n = 1 := fun e => by rw [iEq_t] at e; subst e; rw [l1]; decide
    have lb : 0 ≤ lvl n ∧ lvl n < 4 := by rw [l1]; omega
    unfold mayT mayRest mayCnt counted withPriv at hl ⊢
    simp only at hl ⊢
    have hend : ∀ r, mayEnd { h with priv := r } n = mayEnd h n := fun r => rfl
    simp only [hend] at hl ⊢
    generalize iEq (iAnd .u64 h.mcounteren (cBit n)) 0 = A at *
    generalize iEq (iAnd .u64 h.scounteren (cBit n)) 0 = B at *
    generalize bNot (iEq (iAnd .u64 h.mstatus 1048576) 0) = X at *
    generalize mayEnd h n = E at *
    generalize readOnly n = R at *
    generalize iLe 3072 n = c1 at *
    generalize iLe n 3074 = c2 at *
    have p1 : iLt p (lvl n) = false := by
      cases hp : iLt p (lvl n) with
      | false => rfl
      | true => rw [hp] at hl; cases hl
    have q1 : iLt q (lvl n) = false := by rw [iLt_f] at *; omega
    rw [p1] at hl ⊢
    rw [q1]
    rcases hpq with ⟨rfl, rfl⟩ | ⟨rfl, rfl⟩
    · have n384 : iEq n 384 = false := by
        cases e : iEq n 384 with
        | false => rfl
        | true => have := h384 e; rw [iLt_f] at p1; omega
      rw [n384] at hl ⊢
      rw [show iLt 0 3 = true from iLt_t.2 (by decide), show iEq 0 0 = true from iEq_t.2 rfl] at hl
      rw [show iLt 0 3 = true from iLt_t.2 (by decide), show iEq 0 0 = true from iEq_t.2 rfl, show iLt 1 3 = true from iLt_t.2 (by decide), show iEq 1 0 = false from iEq_f.2 (by decide)]
      cases w <;> cases R <;> cases c1 <;> cases c2 <;> cases A <;> cases B <;> simp_all [ill]
    · rw [show iLt 1 3 = true from iLt_t.2 (by decide), show iEq 1 0 = false from iEq_f.2 (by decide), show iEq 1 1 = true from iEq_t.2 rfl] at hl
      rw [show iLt 1 3 = true from iLt_t.2 (by decide), show iEq 1 0 = false from iEq_f.2 (by decide), show iEq 1 1 = true from iEq_t.2 rfl, show iLt 3 3 = false from iLt_f.2 (by decide), show iEq 3 0 = false from iEq_f.2 (by decide), show iEq 3 1 = false from iEq_f.2 (by decide)]
      generalize iEq n 384 = D at hl ⊢
      cases D <;> cases w <;> cases R <;> cases c1 <;> cases c2 <;> cases A <;> cases X <;> simp_all [ill]

def moreTwo (h : Hart) (n : Int) (w : Bool) : T Bool :=
  .br (bNot (bMay (withPriv h 1) n w).is) (.br (bMay (withPriv h 3) n w).is (.ret false) (.br (bMay (withPriv h 1) n false).is (.ret false) (.br (bNot (bRead (withPriv h 3) n 0 0).2.1) (.ret false) (.ret true)))) (.ret true)
def gMore (h : Hart) (n : Int) (w : Bool) : T Bool :=
  .br (bNot (hartRight h)) (.ret true) <|
  .br (bNot (bMay (withPriv h 0) n w).is) (.br (bMay (withPriv h 1) n w).is (.ret false) (.br (bMay (withPriv h 0) n false).is (.ret false) (.br (bNot (bRead (withPriv h 1) n 0 0).2.1) (.ret false) (moreTwo h n w)))) (moreTwo h n w)

theorem f6_t (h : Hart) (n : Int) (w : Bool) : runT (mkCtx csrRows psT ssL 4) Try.f6 [.v .hart, .v i64, .v .bo] (.one .bo) (h, n, w, ()) = (gMore h n w).mp fun r => (r, ()) := by kernel_rfl

theorem gMore_h (h : Hart) (n : Int) (w : Bool) : (gMore h n w).holds fun r => r = true := by
  have no : ∀ {b : Bool} {P : Prop}, b = false → b = true → P := fun h h' => by rw [h] at h'; cases h'
  have two : (moreTwo h n w).holds fun r => r = true := by
    refine ⟨fun h0 => ?_, fun _ => rfl⟩
    rw [bNot_t] at h0
    obtain ⟨a, b, c⟩ := more_eq h n w 1 3 (.inr ⟨rfl, rfl⟩) h0
    exact ⟨no a, fun _ => ⟨no b, fun _ => ⟨no (by rw [bNot_eq, c]; rfl), fun _ => rfl⟩⟩⟩
  refine ⟨fun _ => rfl, fun _ => ⟨fun h0 => ?_, fun _ => two⟩⟩
  rw [bNot_t] at h0
  obtain ⟨a, b, c⟩ := more_eq h n w 0 1 (.inl ⟨rfl, rfl⟩) h0
  exact ⟨no a, fun _ => ⟨no b, fun _ => ⟨no (by rw [bNot_eq, c]; rfl), fun _ => two⟩⟩⟩

theorem f6_h (h : Hart) (n : Int) (w : Bool) : (runT (mkCtx csrRows psT ssL 4) Try.f6 [.v .hart, .v i64, .v .bo] (.one .bo) (h, n, w, ())).holds fun r => r.1 = true := by
  rw [f6_t]
  exact T.mp_holds (gMore_h h n w)

end Go.Mir

namespace Go.Proofs.Ytfdnbpndnmlmpaa.csrMore
open Go.Mir Go.ChangeShapes Go.WideShapes Go.ChangeAt Go.RowKit

set_option maxRecDepth 100000

theorem walk (a0 : Hart) (a1 : Int) (a2 : Bool) (t0 : HTy a0) (t1 : inI a1) (W : World) :
    Calls Try.prog 6 #[.agg (hartCells a0).toArray, .int .i64 a1, .bool a2] W fun e W' => e = .returned (.bool true) ∧ Same (fun _ _ => False) W W' :=
  law_calls (fn := Try.f6) (l := [.v .hart, .v i64, .v .bo]) (lT.ctx 4) csr_mix (fn_is (by kernel_rfl) (by kernel_rfl)) rfl (a0, a1, a2, ()) ⟨fun _ => default, fun _ => default⟩ (f6_h a0 a1 a2) W

theorem lifted (os : Os) (started : os.Started) (H : Type) (enc : TypeId × Value → H) :
    ReturnsInHanded {} Try.checked os 6 .any (Rows.csrMoreSpec.pre6 enc Try.prog Try.f6 Rows.csrMoreRow.domain false) (Rows.csrMoreSpec.post enc Try.prog Try.f6 false true false false) := by
  refine returnsInHanded_of_change (C := Try.checked) own started (by kernel_rfl) Try.func6
    (ChangeSpec.witness6 (enc := enc) (C := Try.checked) false ⟨#[], #[.agg (hartCells hart0).toArray, .int .i64 0, .bool false], []⟩ 8 (by kernel_rfl) (by kernel_rfl) (by kernel_rfl) (by kernel_rfl)) ?_
  intro W base args ds gs before hval0 hW hcnd _
  have hval : ∀ (j : Nat) t v, Try.f6.params[j]? = some t → args[j]? = some v → Value.okWide Try.prog W .any base t v := hval0
  have hW' := hW
  obtain ⟨p, q, hA0, hV, rfl, hfz, hnd⟩ := hW
  have hA : DataW.TrodAll enc Try.prog W 0 (fun _ => true) true Try.f6.params.toList args.toList ds p := hA0
  obtain ⟨rfl, rfl⟩ := trodVars_none hV
  rw [Try.params6] at hA hval
  obtain ⟨v0, vs0, d0, ds0, p0, q0, hargs, rfl, rfl, h0, r0⟩ := trodAll_cons hA
  obtain ⟨v1, vs1, d1, ds1, p1, q1, rfl, rfl, rfl, h1, r1⟩ := trodAll_cons r0
  obtain ⟨v2, vs2, d2, ds2, p2, q2, rfl, rfl, rfl, h2, r2⟩ := trodAll_cons r1
  obtain ⟨rfl, rfl, rfl⟩ := trodAll_nil r2
  obtain rfl : args = #[v0, v1, v2] := by cases args; simp_all
  obtain ⟨a0, rfl, t0⟩ := open_hart (hval 0 27 v0 rfl rfl)
  obtain ⟨a1, rfl, t1⟩ := Mir.okWide_int Try.underlying3 (hval 1 3 v1 rfl rfl)
  obtain ⟨a2, rfl⟩ := Mir.okWide_bool Try.underlying4 (hval 2 4 v2 rfl rfl)
  refine (walk a0 a1 a2 t0 (has_i t1) W).mono fun e W' ⟨he, hs⟩ => ?_
  exact ⟨_, he, post_law hW' rfl rfl (by kernel_rfl) Try.underlying4 (d := 8) (by kernel_rfl) hs⟩

theorem over : Rows.csrMoreRow.holds Try.pinned (OpenSpec.ofChange Rows.csrMoreSpec) :=
  OpenClaim.holds_of_wide 6 Try.f6 rfl rfl rfl rfl rfl rfl rfl ⟨rfl, rfl, rfl, rfl, rfl⟩ rfl rfl rfl rfl rfl (by kernel_rfl) Try.func6 (by kernel_rfl)
    (of_decide_eq_true (by kernel_rfl)) (by unfold Func.isWrapper; first | (rw [if_pos (by decide +kernel)]; kernel_rfl) | (rw [if_neg (by decide +kernel)]; exact ⟨rfl, rfl⟩))
    (fun os started H enc _ => lifted os started H enc)

theorem proved : Rows.CsrMoreSaid := over

end Go.Proofs.Ytfdnbpndnmlmpaa.csrMore
