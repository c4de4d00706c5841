/- Printed: models and contracts. -/
import Derived.Test.YtnnalcglfgapbaaGood0a
set_option linter.unusedVariables false
set_option linter.unusedSimpArgs false
set_option linter.unnecessarySimpa false
set_option maxRecDepth 100000
set_option maxHeartbeats 8000000
namespace Go.Proofs.Ytnnalcglfgapbaa.Z
open Go Go.RowKit Go.Proofs.Sy Go.Proofs
def m_laws_eqTermS_l3 (n : Nat) (a79 : List gTerm) (a80 : List gTerm) : Nat → Int → Option Bool
  | 0, _ => none
  | k3 + 1, v291 =>
    bif (decide (v291 < ((a79.map gTerm.enc).length : Int))) then (
      (ix a79 v291).bind fun x682 =>
      (ix a80 v291).bind fun x683 =>
      (m_laws_eqTerm n x682 x683).bind fun r494 =>
      bif (!r494) then (
        some false)
      else (
        (m_laws_eqTermS_l3 n a79 a80 k3) (wr .i64 (v291 + 1))))
    else (
      m_laws_eqTermS_j2)
def m_laws_eqTermS (n : Nat) (a79 : List gTerm) (a80 : List gTerm) : Option Bool :=
  bif (((a79.map gTerm.enc).length : Int) != ((a80.map gTerm.enc).length : Int)) then (
    some false)
  else (
    m_laws_eqTermS_l3 n a79 a80 n 0)
theorem c_laws_eqTermS (n : Nat) (a79 : List gTerm) (a80 : List gTerm) (r : Bool) (h : m_laws_eqTermS n a79 a80 = some r) : FnP Try.prog 40 [.lst (a79.map gTerm.enc), .lst (a80.map gTerm.enc)] [B r] := by
  unfold m_laws_eqTermS at h
  refine fn_introJ Try.func40 rfl rfl rfl ?_
  refine .inl ?_
  refine .inl ?_
  refine .inl ?_
  refine And.intro (fun c => ?_) (fun c => ?_)
  · replace h := cT h c
    refine .inl ?_
    replace h := Option.some.inj h
    subst h
    exact ⟨[.p (B false)], [], ⟨[], ⟨rfl, trivial⟩, trivial, rfl⟩, rfl, rfl, rfl⟩
  · replace h := cF h c
    refine .inr ⟨Unit, fun x => ([], []), fun x => m_laws_eqTermS_j2 = some r, ?_, ?_⟩
    · refine .inl ?_
      refine ⟨Int, fun x => ([(0, .p (.lst (a79.map gTerm.enc))), (1, .p (.lst (a80.map gTerm.enc))), (5, .p (I x))], []), fun x k => m_laws_eqTermS_l3 n a79 a80 k x = some r, ⟨0, n, h, [], ⟨rfl, rfl, rfl, trivial⟩, trivial, rfl⟩, ?_⟩
      rintro v291 (_ | k3) h
      · exact ns h
      unfold m_laws_eqTermS_l3 at h
      refine .inl ?_
      refine .inl ?_
      refine And.intro (fun c => ?_) (fun c => ?_)
      · replace h := cT h c
        refine .inl ?_
        refine .inl ?_
        refine ⟨[0, 1, 2, 2003, 4, 5, 6, 2007, 1008, 9], [], by decide +kernel, ?_⟩
        obtain ⟨x682, hx682, h⟩ := bsm h
        refine And.intro (ix0 hx682) (Exists.intro _ (And.intro (gm (ixg hx682)) (And.intro rfl ?_)))
        obtain ⟨x683, hx683, h⟩ := bsm h
        refine And.intro (ix0 hx683) (Exists.intro _ (And.intro (gm (ixg hx683)) (And.intro rfl ?_)))
        obtain ⟨r494, hr494, h⟩ := bsm h
        refine callA (c_laws_eqTerm n x682 x683 _ hr494) ?_
        refine And.intro (fun c => ?_) (fun c => ?_)
        · replace h := cT h c
          refine .inl ?_
          replace h := Option.some.inj h
          subst h
          exact ⟨[.p (B false)], [], ⟨[], ⟨rfl, trivial⟩, trivial, rfl⟩, rfl, rfl, rfl⟩
        · replace h := cF h c
          exact ⟨(wr .i64 (v291 + 1)), k3, h, Nat.lt_succ_self _, [], ⟨rfl, rfl, rfl, trivial⟩, trivial, rfl⟩
      · replace h := cF h c
        exact ⟨(), h, [], trivial, trivial, rfl⟩
    · rintro _ h
      unfold m_laws_eqTermS_j2 at h
      refine .inl ?_
      replace h := Option.some.inj h
      subst h
      exact ⟨[.p (B true)], [], ⟨[], ⟨rfl, trivial⟩, trivial, rfl⟩, rfl, rfl, rfl⟩
def m_laws_eqStringS_j2 : Option Bool :=
  some true
def m_laws_eqStringS_l3 (a81 : List ByteArray) (a82 : List ByteArray) : Nat → Int → Option Bool
  | 0, _ => none
  | k3 + 1, v295 =>
    bif (decide (v295 < ((a81.map S).length : Int))) then (
      (ix a81 v295).bind fun x706 =>
      (ix a82 v295).bind fun x707 =>
      bif (!decide (x706 = x707)) then (
        some false)
      else (
        (m_laws_eqStringS_l3 a81 a82 k3) (wr .i64 (v295 + 1))))
    else (
      m_laws_eqStringS_j2)
def m_laws_eqStringS (n : Nat) (a81 : List ByteArray) (a82 : List ByteArray) : Option Bool :=
  bif (((a81.map S).length : Int) != ((a82.map S).length : Int)) then (
    some false)
  else (
    m_laws_eqStringS_l3 a81 a82 n 0)
theorem c_laws_eqStringS (n : Nat) (a81 : List ByteArray) (a82 : List ByteArray) (r : Bool) (h : m_laws_eqStringS n a81 a82 = some r) : FnP Try.prog 41 [.lst (a81.map S), .lst (a82.map S)] [B r] := by
  unfold m_laws_eqStringS at h
  refine fn_introJ Try.func41 rfl rfl rfl ?_
  refine .inl ?_
  refine .inl ?_
  refine .inl ?_
  refine And.intro (fun c => ?_) (fun c => ?_)
  · replace h := cT h c
    refine .inl ?_
    replace h := Option.some.inj h
    subst h
    exact ⟨[.p (B false)], [], ⟨[], ⟨rfl, trivial⟩, trivial, rfl⟩, rfl, rfl, rfl⟩
  · replace h := cF h c
    refine .inr ⟨Unit, fun x => ([], []), fun x => m_laws_eqStringS_j2 = some r, ?_, ?_⟩
    · refine .inl ?_
      refine ⟨Int, fun x => ([(0, .p (.lst (a81.map S))), (1, .p (.lst (a82.map S))), (5, .p (I x))], []), fun x k => m_laws_eqStringS_l3 a81 a82 k x = some r, ⟨0, n, h, [], ⟨rfl, rfl, rfl, trivial⟩, trivial, rfl⟩, ?_⟩
      rintro v295 (_ | k3) h
      · exact ns h
      unfold m_laws_eqStringS_l3 at h
      refine .inl ?_
      refine .inl ?_
      refine And.intro (fun c => ?_) (fun c => ?_)
      · replace h := cT h c
        refine .inl ?_
        refine .inl ?_
        refine ⟨[0, 1, 2, 3, 4, 5, 6, 7, 8], [], by decide +kernel, ?_⟩
        obtain ⟨x706, hx706, h⟩ := bsm h
        refine And.intro (ix0 hx706) (Exists.intro _ (And.intro (gm (ixg hx706)) (And.intro rfl ?_)))
        obtain ⟨x707, hx707, h⟩ := bsm h
        refine And.intro (ix0 hx707) (Exists.intro _ (And.intro (gm (ixg hx707)) (And.intro rfl ?_)))
        refine And.intro (fun c => ?_) (fun c => ?_)
        · replace h := cT h c
          refine .inl ?_
          replace h := Option.some.inj h
          subst h
          exact ⟨[.p (B false)], [], ⟨[], ⟨rfl, trivial⟩, trivial, rfl⟩, rfl, rfl, rfl⟩
        · replace h := cF h c
          exact ⟨(wr .i64 (v295 + 1)), k3, h, Nat.lt_succ_self _, [], ⟨rfl, rfl, rfl, trivial⟩, trivial, rfl⟩
      · replace h := cF h c
        exact ⟨(), h, [], trivial, trivial, rfl⟩
    · rintro _ h
      unfold m_laws_eqStringS_j2 at h
      refine .inl ?_
      replace h := Option.some.inj h
      subst h
      exact ⟨[.p (B true)], [], ⟨[], ⟨rfl, trivial⟩, trivial, rfl⟩, rfl, rfl, rfl⟩
def m_laws_eqIntS_j2 : Option Bool :=
  some true
def m_laws_eqIntS_l3 (a83 : List Int) (a84 : List Int) : Nat → Int → Option Bool
  | 0, _ => none
  | k3 + 1, v299 =>
    bif (decide (v299 < ((a83.map I).length : Int))) then (
      (ix a83 v299).bind fun x730 =>
      (ix a84 v299).bind fun x731 =>
      bif (x730 != x731) then (
        some false)
      else (
        (m_laws_eqIntS_l3 a83 a84 k3) (wr .i64 (v299 + 1))))
    else (
      m_laws_eqIntS_j2)
def m_laws_eqIntS (n : Nat) (a83 : List Int) (a84 : List Int) : Option Bool :=
  bif (((a83.map I).length : Int) != ((a84.map I).length : Int)) then (
    some false)
  else (
    m_laws_eqIntS_l3 a83 a84 n 0)
theorem c_laws_eqIntS (n : Nat) (a83 : List Int) (a84 : List Int) (r : Bool) (h : m_laws_eqIntS n a83 a84 = some r) : FnP Try.prog 14 [.lst (a83.map I), .lst (a84.map I)] [B r] := by
  unfold m_laws_eqIntS at h
  refine fn_introJ Try.func14 rfl rfl rfl ?_
  refine .inl ?_
  refine .inl ?_
  refine .inl ?_
  refine And.intro (fun c => ?_) (fun c => ?_)
  · replace h := cT h c
    refine .inl ?_
    replace h := Option.some.inj h
    subst h
    exact ⟨[.p (B false)], [], ⟨[], ⟨rfl, trivial⟩, trivial, rfl⟩, rfl, rfl, rfl⟩
  · replace h := cF h c
    refine .inr ⟨Unit, fun x => ([], []), fun x => m_laws_eqIntS_j2 = some r, ?_, ?_⟩
    · refine .inl ?_
      refine ⟨Int, fun x => ([(0, .p (.lst (a83.map I))), (1, .p (.lst (a84.map I))), (5, .p (I x))], []), fun x k => m_laws_eqIntS_l3 a83 a84 k x = some r, ⟨0, n, h, [], ⟨rfl, rfl, rfl, trivial⟩, trivial, rfl⟩, ?_⟩
      rintro v299 (_ | k3) h
      · exact ns h
      unfold m_laws_eqIntS_l3 at h
      refine .inl ?_
      refine .inl ?_
      refine And.intro (fun c => ?_) (fun c => ?_)
      · replace h := cT h c
        refine .inl ?_
        refine .inl ?_
        refine ⟨[0, 1, 2, 3, 4, 5, 6, 7, 8], [], by decide +kernel, ?_⟩
        obtain ⟨x730, hx730, h⟩ := bsm h
        refine And.intro (ix0 hx730) (Exists.intro _ (And.intro (gm (ixg hx730)) (And.intro rfl ?_)))
        obtain ⟨x731, hx731, h⟩ := bsm h
        refine And.intro (ix0 hx731) (Exists.intro _ (And.intro (gm (ixg hx731)) (And.intro rfl ?_)))
        refine And.intro (fun c => ?_) (fun c => ?_)
        · replace h := cT h c
          refine .inl ?_
          replace h := Option.some.inj h
          subst h
          exact ⟨[.p (B false)], [], ⟨[], ⟨rfl, trivial⟩, trivial, rfl⟩, rfl, rfl, rfl⟩
        · replace h := cF h c
          exact ⟨(wr .i64 (v299 + 1)), k3, h, Nat.lt_succ_self _, [], ⟨rfl, rfl, rfl, trivial⟩, trivial, rfl⟩
      · replace h := cF h c
        exact ⟨(), h, [], trivial, trivial, rfl⟩
    · rintro _ h
      unfold m_laws_eqIntS_j2 at h
      refine .inl ?_
      replace h := Option.some.inj h
      subst h
      exact ⟨[.p (B true)], [], ⟨[], ⟨rfl, trivial⟩, trivial, rfl⟩, rfl, rfl, rfl⟩
def m_laws_eqProd (n : Nat) (a85 : gProd) (a86 : gProd) : Option Bool :=
  bif (a85.left_ != a86.left_) then (
    some false)
  else (
    (m_laws_eqIntS n a85.right_ a86.right_).bind fun r495 =>
    bif (!r495) then (
      some false)
    else (
      bif (!decide (a85.label_ = a86.label_)) then (
        some false)
      else (
        bif (a85.level_ != a86.level_) then (
          some false)
        else (
          bif (a85.assoc_ != a86.assoc_) then (
            some false)
          else (
            some true)))))
theorem c_laws_eqProd (n : Nat) (a85 : gProd) (a86 : gProd) (r : Bool) (h : m_laws_eqProd n a85 a86 = some r) : FnP Try.prog 88 [a85.enc, a86.enc] [B r] := by
  unfold m_laws_eqProd at h
  refine fn_introJ Try.func88 rfl rfl rfl ?_
  refine .inl ?_
  refine .inl ?_
  refine .inl ?_
  refine And.intro (fun c => ?_) (fun c => ?_)
  · replace h := cT h c
    refine .inl ?_
    replace h := Option.some.inj h
    subst h
    exact ⟨[.p (B false)], [], ⟨[], ⟨rfl, trivial⟩, trivial, rfl⟩, rfl, rfl, rfl⟩
  · replace h := cF h c
    refine .inl ?_
    refine .inl ?_
    obtain ⟨r495, hr495, h⟩ := bsm h
    refine callA (c_laws_eqIntS n a85.right_ a86.right_ _ hr495) ?_
    refine And.intro (fun c => ?_) (fun c => ?_)
    · replace h := cT h c
      refine .inl ?_
      replace h := Option.some.inj h
      subst h
      exact ⟨[.p (B false)], [], ⟨[], ⟨rfl, trivial⟩, trivial, rfl⟩, rfl, rfl, rfl⟩
    · replace h := cF h c
      refine .inl ?_
      refine .inl ?_
      refine And.intro (fun c => ?_) (fun c => ?_)
      · replace h := cT h c
        refine .inl ?_
        replace h := Option.some.inj h
        subst h
        exact ⟨[.p (B false)], [], ⟨[], ⟨rfl, trivial⟩, trivial, rfl⟩, rfl, rfl, rfl⟩
      · replace h := cF h c
        refine .inl ?_
        refine .inl ?_
        refine And.intro (fun c => ?_) (fun c => ?_)
        · replace h := cT h c
          refine .inl ?_
          replace h := Option.some.inj h
          subst h
          exact ⟨[.p (B false)], [], ⟨[], ⟨rfl, trivial⟩, trivial, rfl⟩, rfl, rfl, rfl⟩
        · replace h := cF h c
          refine .inl ?_
          refine .inl ?_
          refine And.intro (fun c => ?_) (fun c => ?_)
          · replace h := cT h c
            refine .inl ?_
            replace h := Option.some.inj h
            subst h
            exact ⟨[.p (B false)], [], ⟨[], ⟨rfl, trivial⟩, trivial, rfl⟩, rfl, rfl, rfl⟩
          · replace h := cF h c
            refine .inl ?_
            replace h := Option.some.inj h
            subst h
            exact ⟨[.p (B true)], [], ⟨[], ⟨rfl, trivial⟩, trivial, rfl⟩, rfl, rfl, rfl⟩
def m_laws_eqProdS_j2 : Option Bool :=
  some true
def m_laws_eqProdS_l3 (n : Nat) (a87 : List gProd) (a88 : List gProd) : Nat → Int → Option Bool
  | 0, _ => none
  | k3 + 1, v303 =>
    bif (decide (v303 < ((a87.map gProd.enc).length : Int))) then (
      (ix a87 v303).bind fun x754 =>
      (ix a88 v303).bind fun x755 =>
      (m_laws_eqProd n x754 x755).bind fun r507 =>
      bif (!r507) then (
        some false)
      else (
        (m_laws_eqProdS_l3 n a87 a88 k3) (wr .i64 (v303 + 1))))
    else (
      m_laws_eqProdS_j2)
def m_laws_eqProdS (n : Nat) (a87 : List gProd) (a88 : List gProd) : Option Bool :=
  bif (((a87.map gProd.enc).length : Int) != ((a88.map gProd.enc).length : Int)) then (
    some false)
  else (
    m_laws_eqProdS_l3 n a87 a88 n 0)
theorem c_laws_eqProdS (n : Nat) (a87 : List gProd) (a88 : List gProd) (r : Bool) (h : m_laws_eqProdS n a87 a88 = some r) : FnP Try.prog 42 [.lst (a87.map gProd.enc), .lst (a88.map gProd.enc)] [B r] := by
  unfold m_laws_eqProdS at h
  refine fn_introJ Try.func42 rfl rfl rfl ?_
  refine .inl ?_
  refine .inl ?_
  refine .inl ?_
  refine And.intro (fun c => ?_) (fun c => ?_)
  · replace h := cT h c
    refine .inl ?_
    replace h := Option.some.inj h
    subst h
    exact ⟨[.p (B false)], [], ⟨[], ⟨rfl, trivial⟩, trivial, rfl⟩, rfl, rfl, rfl⟩
  · replace h := cF h c
    refine .inr ⟨Unit, fun x => ([], []), fun x => m_laws_eqProdS_j2 = some r, ?_, ?_⟩
    · refine .inl ?_
      refine ⟨Int, fun x => ([(0, .p (.lst (a87.map gProd.enc))), (1, .p (.lst (a88.map gProd.enc))), (5, .p (I x))], []), fun x k => m_laws_eqProdS_l3 n a87 a88 k x = some r, ⟨0, n, h, [], ⟨rfl, rfl, rfl, trivial⟩, trivial, rfl⟩, ?_⟩
      rintro v303 (_ | k3) h
      · exact ns h
      unfold m_laws_eqProdS_l3 at h
      refine .inl ?_
      refine .inl ?_
      refine And.intro (fun c => ?_) (fun c => ?_)
      · replace h := cT h c
        refine .inl ?_
        refine .inl ?_
        refine ⟨[0, 1, 2, 2003, 4, 5, 6, 2007, 1008, 9], [], by decide +kernel, ?_⟩
        obtain ⟨x754, hx754, h⟩ := bsm h
        refine And.intro (ix0 hx754) (Exists.intro _ (And.intro (gm (ixg hx754)) (And.intro rfl ?_)))
        obtain ⟨x755, hx755, h⟩ := bsm h
        refine And.intro (ix0 hx755) (Exists.intro _ (And.intro (gm (ixg hx755)) (And.intro rfl ?_)))
        obtain ⟨r507, hr507, h⟩ := bsm h
        refine callA (c_laws_eqProd n x754 x755 _ hr507) ?_
        refine And.intro (fun c => ?_) (fun c => ?_)
        · replace h := cT h c
          refine .inl ?_
          replace h := Option.some.inj h
          subst h
          exact ⟨[.p (B false)], [], ⟨[], ⟨rfl, trivial⟩, trivial, rfl⟩, rfl, rfl, rfl⟩
        · replace h := cF h c
          exact ⟨(wr .i64 (v303 + 1)), k3, h, Nat.lt_succ_self _, [], ⟨rfl, rfl, rfl, trivial⟩, trivial, rfl⟩
      · replace h := cF h c
        exact ⟨(), h, [], trivial, trivial, rfl⟩
    · rintro _ h
      unfold m_laws_eqProdS_j2 at h
      refine .inl ?_
      replace h := Option.some.inj h
      subst h
      exact ⟨[.p (B true)], [], ⟨[], ⟨rfl, trivial⟩, trivial, rfl⟩, rfl, rfl, rfl⟩
def m_laws_eqBnf (n : Nat) (a89 : gBnf) (a90 : gBnf) : Option Bool :=
  (m_laws_eqTermS n a89.terms_ a90.terms_).bind fun r508 =>
  bif (!r508) then (
    some false)
  else (
    (m_laws_eqStringS n a89.nons_ a90.nons_).bind fun r509 =>
    bif (!r509) then (
      some false)
    else (
      bif (a89.own_ != a90.own_) then (
        some false)
      else (
        (m_laws_eqProdS n a89.prods_ a90.prods_).bind fun r510 =>
        bif (!r510) then (
          some false)
        else (
          some true))))
theorem c_laws_eqBnf (n : Nat) (a89 : gBnf) (a90 : gBnf) (r : Bool) (h : m_laws_eqBnf n a89 a90 = some r) : FnP Try.prog 13 [a89.enc, a90.enc] [B r] := by
  unfold m_laws_eqBnf at h
  refine fn_introJ Try.func13 rfl rfl rfl ?_
  refine .inl ?_
  refine .inl ?_
  refine .inl ?_
  obtain ⟨r508, hr508, h⟩ := bsm h
  refine callA (c_laws_eqTermS n a89.terms_ a90.terms_ _ hr508) ?_
  refine And.intro (fun c => ?_) (fun c => ?_)
  · replace h := cT h c
    refine .inl ?_
    replace h := Option.some.inj h
    subst h
    exact ⟨[.p (B false)], [], ⟨[], ⟨rfl, trivial⟩, trivial, rfl⟩, rfl, rfl, rfl⟩
  · replace h := cF h c
    refine .inl ?_
    refine .inl ?_
    obtain ⟨r509, hr509, h⟩ := bsm h
    refine callA (c_laws_eqStringS n a89.nons_ a90.nons_ _ hr509) ?_
    refine And.intro (fun c => ?_) (fun c => ?_)
    · replace h := cT h c
      refine .inl ?_
      replace h := Option.some.inj h
      subst h
      exact ⟨[.p (B false)], [], ⟨[], ⟨rfl, trivial⟩, trivial, rfl⟩, rfl, rfl, rfl⟩
    · replace h := cF h c
      refine .inl ?_
      refine .inl ?_
      refine And.intro (fun c => ?_) (fun c => ?_)
      · replace h := cT h c
        refine .inl ?_
        replace h := Option.some.inj h
        subst h
        exact ⟨[.p (B false)], [], ⟨[], ⟨rfl, trivial⟩, trivial, rfl⟩, rfl, rfl, rfl⟩
      · replace h := cF h c
        refine .inl ?_
        refine .inl ?_
        obtain ⟨r510, hr510, h⟩ := bsm h
        refine callA (c_laws_eqProdS n a89.prods_ a90.prods_ _ hr510) ?_
        refine And.intro (fun c => ?_) (fun c => ?_)
        · replace h := cT h c
          refine .inl ?_
          replace h := Option.some.inj h
          subst h
          exact ⟨[.p (B false)], [], ⟨[], ⟨rfl, trivial⟩, trivial, rfl⟩, rfl, rfl, rfl⟩
        · replace h := cF h c
          refine .inl ?_
          replace h := Option.some.inj h
          subst h
          exact ⟨[.p (B true)], [], ⟨[], ⟨rfl, trivial⟩, trivial, rfl⟩, rfl, rfl, rfl⟩
def m_laws_FnExactGood (n : Nat) (a91 : gBnf) (a92 : Int) (a93 : List Int) : Option Bool :=
  bif (decide (((a93.map I).length : Int) > 1048576)) then (
    some true)
  else (
    (m_laws_szBnf n a91 1048576).bind fun r511 =>
    bif (decide (r511 < 0)) then (
      some true)
    else (
      (m_laws_toBnf n a91).bind fun r512 =>
      (m_laws_toIntS n a93).bind fun r513 =>
      (m_spec_Good n r512 a92 r513).bind fun r514 =>
      (m_laws_toBnf n a91).bind fun r515 =>
      (m_laws_toIntS n a93).bind fun r516 =>
      (m_impl_Good n r515 a92 r516).bind fun r517 =>
      bif (xor true (r517.1 == r514.1)) then (
        some false)
      else (
        bif (r517.2 != r514.2) then (
          some false)
        else (
          (m_laws_toBnf n a91).bind fun r520 =>
          (m_laws_eqBnf n r515 r520).bind fun r521 =>
          bif (!r521) then (
            some false)
          else (
            (m_laws_toIntS n a93).bind fun r522 =>
            (m_laws_eqIntS n r516 r522).bind fun r523 =>
            bif (!r523) then (
              some false)
            else (
              some true))))))
theorem c_laws_FnExactGood (n : Nat) (a91 : gBnf) (a92 : Int) (a93 : List Int) (r : Bool) (h : m_laws_FnExactGood n a91 a92 a93 = some r) : FnP Try.prog 3 [a91.enc, I a92, .lst (a93.map I)] [B r] := by
  unfold m_laws_FnExactGood at h
  refine fn_introJ Try.func3 rfl rfl rfl ?_
  refine .inl ?_
  refine .inl ?_
  refine .inl ?_
  refine And.intro (fun c => ?_) (fun c => ?_)
  · replace h := cT h c
    refine .inl ?_
    replace h := Option.some.inj h
    subst h
    exact ⟨[.p (B true)], [], ⟨[], ⟨rfl, trivial⟩, trivial, rfl⟩, rfl, rfl, rfl⟩
  · replace h := cF h c
    refine .inl ?_
    refine .inl ?_
    obtain ⟨r511, hr511, h⟩ := bsm h
    refine callA (c_laws_szBnf n a91 1048576 _ hr511) ?_
    refine .inl ?_
    refine .inl ?_
    refine And.intro (fun c => ?_) (fun c => ?_)
    · replace h := cT h c
      refine .inl ?_
      replace h := Option.some.inj h
      subst h
      exact ⟨[.p (B true)], [], ⟨[], ⟨rfl, trivial⟩, trivial, rfl⟩, rfl, rfl, rfl⟩
    · replace h := cF h c
      refine .inl ?_
      obtain ⟨r512, hr512, h⟩ := bsm h
      refine callA (c_laws_toBnf n a91 _ hr512) ?_
      obtain ⟨r513, hr513, h⟩ := bsm h
      refine callA (c_laws_toIntS n a93 _ hr513) ?_
      obtain ⟨r514, hr514, h⟩ := bsm h
      refine callA (c_spec_Good n r512 a92 r513 _ hr514) ?_
      refine .inl ?_
      obtain ⟨r515, hr515, h⟩ := bsm h
      refine callA (c_laws_toBnf n a91 _ hr515) ?_
      refine .inl ?_
      obtain ⟨r516, hr516, h⟩ := bsm h
      refine callA (c_laws_toIntS n a93 _ hr516) ?_
      refine .inl ?_
      obtain ⟨r517, hr517, h⟩ := bsm h
      refine callA (c_impl_Good n r515 a92 r516 _ hr517) ?_
      refine .inl ?_
      refine .inl ?_
      refine And.intro (fun c => ?_) (fun c => ?_)
      · replace h := cF h c
        refine And.intro (fun _ => ?_) (fun c => absurd c (by decide))
        refine And.intro (fun _ => ?_) (fun c => absurd c (by decide))
        refine And.intro (fun c => absurd c (by decide)) (fun _ => ?_)
        refine And.intro (fun c => ?_) (fun c => ?_)
        · replace h := cT h c
          refine .inl ?_
          replace h := Option.some.inj h
          subst h
          exact ⟨[.p (B false)], [], ⟨[], ⟨rfl, trivial⟩, trivial, rfl⟩, rfl, rfl, rfl⟩
        · replace h := cF h c
          refine .inl ?_
          refine .inl ?_
          refine ⟨[0, 2001, 2, 1003, 4], [], by decide +kernel, ?_⟩
          obtain ⟨r520, hr520, h⟩ := bsm h
          refine callA (c_laws_toBnf n a91 _ hr520) ?_
          obtain ⟨r521, hr521, h⟩ := bsm h
          refine callA (c_laws_eqBnf n r515 r520 _ hr521) ?_
          refine And.intro (fun c => ?_) (fun c => ?_)
          · replace h := cT h c
            refine .inl ?_
            replace h := Option.some.inj h
            subst h
            exact ⟨[.p (B false)], [], ⟨[], ⟨rfl, trivial⟩, trivial, rfl⟩, rfl, rfl, rfl⟩
          · replace h := cF h c
            refine .inl ?_
            refine .inl ?_
            obtain ⟨r522, hr522, h⟩ := bsm h
            refine callA (c_laws_toIntS n a93 _ hr522) ?_
            obtain ⟨r523, hr523, h⟩ := bsm h
            refine callA (c_laws_eqIntS n r516 r522 _ hr523) ?_
            refine And.intro (fun c => ?_) (fun c => ?_)
            · replace h := cT h c
              refine .inl ?_
              replace h := Option.some.inj h
              subst h
              exact ⟨[.p (B false)], [], ⟨[], ⟨rfl, trivial⟩, trivial, rfl⟩, rfl, rfl, rfl⟩
            · replace h := cF h c
              refine .inl ?_
              replace h := Option.some.inj h
              subst h
              exact ⟨[.p (B true)], [], ⟨[], ⟨rfl, trivial⟩, trivial, rfl⟩, rfl, rfl, rfl⟩
      · replace h := cT h c
        refine And.intro (fun c => absurd c (by decide)) (fun _ => ?_)
        refine And.intro (fun c => absurd c (by decide)) (fun _ => ?_)
        refine And.intro (fun _ => ?_) (fun c => absurd c (by decide))
        refine And.intro (fun _ => ?_) (fun c => absurd c (by decide))
        refine .inl ?_
        replace h := Option.some.inj h
        subst h
        exact ⟨[.p (B false)], [], ⟨[], ⟨rfl, trivial⟩, trivial, rfl⟩, rfl, rfl, rfl⟩
end Go.Proofs.Ytnnalcglfgapbaa.Z
