/- Printed: models and contracts. -/
import Derived.Test.YtnnalcglfgapbaaGvC
set_option linter.unusedVariables false
set_option linter.unusedSimpArgs false
set_option linter.unnecessarySimpa false
set_option maxRecDepth 100000
set_option maxHeartbeats 8000000
namespace Go.Proofs.Ytnnalcglfgapbaa.Z
open Go Go.RowKit Go.Proofs.Sy Go.Proofs
structure gTerm where
  name_ : ByteArray
  level_ : Int
  assoc_ : Int
def gTerm.enc (x : gTerm) : PV := .agg [S x.name_, I x.level_, I x.assoc_]
structure gProd where
  left_ : Int
  right_ : List Int
  label_ : ByteArray
  level_ : Int
  assoc_ : Int
def gProd.enc (x : gProd) : PV := .agg [I x.left_, .lst (x.right_.map I), S x.label_, I x.level_, I x.assoc_]
structure gBnf where
  terms_ : List gTerm
  nons_ : List ByteArray
  own_ : Int
  prods_ : List gProd
def gBnf.enc (x : gBnf) : PV := .agg [.lst (x.terms_.map gTerm.enc), .lst (x.nons_.map S), I x.own_, .lst (x.prods_.map gProd.enc)]
structure gl06Deriv where
  prod_ : Int
  kids_ : List gl06Deriv
mutual
def gl06Deriv_enc0 : gl06Deriv → PV
  | ⟨x0, x1⟩ => .agg [I x0, .lst (gl06Deriv_encM x1)]
def gl06Deriv_encM : List gl06Deriv → List PV
  | [] => []
  | t :: r => gl06Deriv_enc0 t :: gl06Deriv_encM r
end
def gl06Deriv.enc (x : gl06Deriv) : PV := .agg [I x.prod_, .lst (gl06Deriv_encM x.kids_)]
theorem gl06Deriv_enc0_eq (t : gl06Deriv) : gl06Deriv_enc0 t = t.enc := by cases t; rfl
theorem gl06Deriv_encM_eq : ∀ l : List gl06Deriv, gl06Deriv_encM l = l.map gl06Deriv.enc
  | [] => rfl
  | t :: r => by simp only [gl06Deriv_encM, gl06Deriv_enc0_eq, gl06Deriv_encM_eq r, List.map_cons]
@[simp] theorem gl06Deriv_encM_len (l : List gl06Deriv) : (gl06Deriv_encM l).length = l.length := by rw [gl06Deriv_encM_eq, List.length_map]
theorem gl06Deriv_encM_get {l : List gl06Deriv} {i : Nat} {t : gl06Deriv} (h : l[i]? = some t) : (gl06Deriv_encM l)[i]? = some t.enc := by rw [gl06Deriv_encM_eq]; exact gm h
theorem gl06Deriv_encM_fits (l : List gl06Deriv) : fits 2 (gl06Deriv_encM l) := by rw [gl06Deriv_encM_eq]; exact fits_map (e := gl06Deriv.enc) (fun _ => ⟨rfl, rfl⟩) _
theorem gl06Deriv_encM_hd {l : List gl06Deriv} : ∀ y, (gl06Deriv_encM l)[0]? = some y → y.cs.length = 2 := by rw [gl06Deriv_encM_eq]; exact hd_map (e := gl06Deriv.enc) (fun _ => rfl) l
@[simp] theorem gl06Deriv_encM_s0 (l r : List gl06Deriv) : gl06Deriv_encM (l ++ r) = gl06Deriv_encM l ++ gl06Deriv_encM r := by simp [gl06Deriv_encM_eq]
@[simp] theorem gl06Deriv_encM_s1 (l : List gl06Deriv) (i : Nat) (t : gl06Deriv) : gl06Deriv_encM (l.set i t) = (gl06Deriv_encM l).set i t.enc := by simp [gl06Deriv_encM_eq]
@[simp] theorem gl06Deriv_encM_s2 (l : List gl06Deriv) (i : Nat) : gl06Deriv_encM (l.take i) = (gl06Deriv_encM l).take i := by simp [gl06Deriv_encM_eq]
@[simp] theorem gl06Deriv_encM_s3 (l : List gl06Deriv) (i : Nat) : gl06Deriv_encM (l.drop i) = (gl06Deriv_encM l).drop i := by simp [gl06Deriv_encM_eq]
@[simp] theorem gl06Deriv_encM_s4 (i : Nat) (t : gl06Deriv) : gl06Deriv_encM (List.replicate i t) = List.replicate i t.enc := by simp [gl06Deriv_encM_eq]
@[simp] theorem gl06Deriv_encM_s5 (t : gl06Deriv) (l : List gl06Deriv) : gl06Deriv_encM (t :: l) = t.enc :: gl06Deriv_encM l := by simp [gl06Deriv_encM_eq]
@[simp] theorem gl06Deriv_encM_s6  : gl06Deriv_encM [] = [] := by simp [gl06Deriv_encM_eq]
def gl06Deriv.encK (l : List gl06Deriv) : PV := .lst (gl06Deriv_encM l)
structure gl06Reader where
  b_ : gBnf
  d_ : List Int
  at_ : Int
  bad_ : Bool
def gl06Reader.enc (x : gl06Reader) : PV := .agg [.lst (x.b_.terms_.map gTerm.enc), .lst (x.b_.nons_.map S), I x.b_.own_, .lst (x.b_.prods_.map gProd.enc), .lst (x.d_.map I), I x.at_, B x.bad_]
structure gpnode where
  prod_ : Int
  kids_ : List (Option gpnode)
mutual
def gpnode_enc0 : gpnode → PV
  | ⟨x0, x1⟩ => .agg [I x0, .lst (gpnode_encM x1)]
def gpnode_encQ : Option gpnode → Option PV
  | none => none
  | some x => some (gpnode_enc0 x)
def gpnode_encM : List (Option gpnode) → List PV
  | [] => []
  | t :: r => .bx (gpnode_encQ t) :: gpnode_encM r
end
def gpnode.enc (x : gpnode) : PV := .agg [I x.prod_, .lst (gpnode_encM x.kids_)]
def gpnode_encO (o : Option gpnode) : Option PV := match o with
  | none => none
  | some x => some x.enc
def gpnode_encP (o : Option gpnode) : PV := .bx (gpnode_encO o)
theorem gpnode_enc0_eq (t : gpnode) : gpnode_enc0 t = t.enc := by cases t; rfl
theorem gpnode_encQ_eq (o : Option gpnode) : gpnode_encQ o = gpnode_encO o := by cases o with | none => rfl | some x => exact congrArg some (gpnode_enc0_eq x)
theorem gpnode_encO_some {o : Option gpnode} {x : gpnode} (h : o = some x) : gpnode_encO o = some x.enc := by subst h; rfl
theorem gpnode_encO_none {o : Option gpnode} (h : o = none) : gpnode_encO o = none := by subst h; rfl
theorem gpnode_encM_eq : ∀ l : List (Option gpnode), gpnode_encM l = l.map gpnode_encP
  | [] => rfl
  | t :: r => by simp only [gpnode_encM, gpnode_encQ_eq, gpnode_encM_eq r, List.map_cons, gpnode_encP]
@[simp] theorem gpnode_encM_len (l : List (Option gpnode)) : (gpnode_encM l).length = l.length := by rw [gpnode_encM_eq, List.length_map]
theorem gpnode_encM_get {l : List (Option gpnode)} {i : Nat} {t : Option gpnode} (h : l[i]? = some t) : (gpnode_encM l)[i]? = some (.bx (gpnode_encO t)) := by rw [gpnode_encM_eq]; exact gm h
theorem gpnode_encM_fits (l : List (Option gpnode)) : fits 1 (gpnode_encM l) := by rw [gpnode_encM_eq]; exact fits_map (e := gpnode_encP) (fun _ => ⟨rfl, rfl⟩) _
theorem gpnode_encM_hd {l : List (Option gpnode)} : ∀ y, (gpnode_encM l)[0]? = some y → y.cs.length = 1 := by rw [gpnode_encM_eq]; exact hd_map (e := gpnode_encP) (fun _ => rfl) l
@[simp] theorem gpnode_encM_s0 (l r : List (Option gpnode)) : gpnode_encM (l ++ r) = gpnode_encM l ++ gpnode_encM r := by simp [gpnode_encM_eq, gpnode_encP]
@[simp] theorem gpnode_encM_s1 (l : List (Option gpnode)) (i : Nat) (t : Option gpnode) : gpnode_encM (l.set i t) = (gpnode_encM l).set i (.bx (gpnode_encO t)) := by simp [gpnode_encM_eq, gpnode_encP]
@[simp] theorem gpnode_encM_s2 (l : List (Option gpnode)) (i : Nat) : gpnode_encM (l.take i) = (gpnode_encM l).take i := by simp [gpnode_encM_eq, gpnode_encP]
@[simp] theorem gpnode_encM_s3 (l : List (Option gpnode)) (i : Nat) : gpnode_encM (l.drop i) = (gpnode_encM l).drop i := by simp [gpnode_encM_eq, gpnode_encP]
@[simp] theorem gpnode_encM_s4 (i : Nat) (t : Option gpnode) : gpnode_encM (List.replicate i t) = List.replicate i (.bx (gpnode_encO t)) := by simp [gpnode_encM_eq, gpnode_encP]
@[simp] theorem gpnode_encM_s5 (t : Option gpnode) (l : List (Option gpnode)) : gpnode_encM (t :: l) = .bx (gpnode_encO t) :: gpnode_encM l := by simp [gpnode_encM_eq, gpnode_encP]
@[simp] theorem gpnode_encM_s6  : gpnode_encM [] = [] := by simp [gpnode_encM_eq, gpnode_encP]
@[simp] theorem gpnode_encO_n : gpnode_encO none = none := rfl
@[simp] theorem gpnode_encO_s (x : gpnode) : gpnode_encO (some x) = some x.enc := rfl
def gpnode_encK (l : List (Option gpnode)) : PV := .lst (gpnode_encM l)
structure gdread where
  b_ : gBnf
  d_ : List Int
  i_ : Int
def gdread.enc (x : gdread) : PV := .agg [.lst (x.b_.terms_.map gTerm.enc), .lst (x.b_.nons_.map S), I x.b_.own_, .lst (x.b_.prods_.map gProd.enc), .lst (x.d_.map I), I x.i_]
def m_laws_szTerm (n : Nat) (a1 : gTerm) (a2 : Int) : Option Int :=
  bif (decide ((wr .i64 (a2 - (a1.name_.size : Int))) < 0)) then (
    some (-1))
  else (
    some (wr .i64 (a2 - (a1.name_.size : Int))))
theorem c_laws_szTerm (n : Nat) (a1 : gTerm) (a2 : Int) (r : Int) (h : m_laws_szTerm n a1 a2 = some r) : FnP Try.prog 79 [a1.enc, I a2] [I r] := by
  unfold m_laws_szTerm at h
  refine fn_introJ Try.func79 rfl rfl rfl ?_
  refine .inl ?_
  refine .inl ?_
  refine .inl ?_
  refine .inl ?_
  refine And.intro (fun c => ?_) (fun c => ?_)
  · replace h := cT h c
    refine .inl ?_
    replace h := Option.some.inj h
    subst h
    exact ⟨[.p (I (-1))], [], ⟨[], ⟨rfl, trivial⟩, trivial, rfl⟩, rfl, rfl, rfl⟩
  · replace h := cF h c
    refine .inl ?_
    replace h := Option.some.inj h
    subst h
    exact ⟨[.p (I (wr .i64 (a2 - (a1.name_.size : Int))))], [], ⟨[], ⟨rfl, trivial⟩, trivial, rfl⟩, rfl, rfl, rfl⟩
def m_laws_szTermS_j2 (v5 : Int) : Option Int :=
  some v5
def m_laws_szTermS_l3 (n : Nat) (a3 : List gTerm) : Nat → Int → Int → Option Int
  | 0, _, _ => none
  | k3 + 1, v6, v7 =>
    bif (decide (v7 < ((a3.map gTerm.enc).length : Int))) then (
      (ix a3 v7).bind fun x6 =>
      (m_laws_szTerm n x6 v6).bind fun r6 =>
      bif (decide (r6 < 0)) then (
        some (-1))
      else (
        (m_laws_szTermS_l3 n a3 k3) r6 (wr .i64 (v7 + 1))))
    else (
      m_laws_szTermS_j2 v6)
def m_laws_szTermS (n : Nat) (a3 : List gTerm) (a4 : Int) : Option Int :=
  bif (decide ((wr .i64 (a4 - ((a3.map gTerm.enc).length : Int))) < 0)) then (
    some (-1))
  else (
    m_laws_szTermS_l3 n a3 n (wr .i64 (a4 - ((a3.map gTerm.enc).length : Int))) 0)
theorem c_laws_szTermS (n : Nat) (a3 : List gTerm) (a4 : Int) (r : Int) (h : m_laws_szTermS n a3 a4 = some r) : FnP Try.prog 29 [.lst (a3.map gTerm.enc), I a4] [I r] := by
  unfold m_laws_szTermS at h
  refine fn_introJ Try.func29 rfl rfl rfl ?_
  refine .inl ?_
  refine .inl ?_
  refine .inl ?_
  refine .inl ?_
  refine And.intro (fun c => ?_) (fun c => ?_)
  · replace h := cT h c
    refine .inl ?_
    replace h := Option.some.inj h
    subst h
    exact ⟨[.p (I (-1))], [], ⟨[], ⟨rfl, trivial⟩, trivial, rfl⟩, rfl, rfl, rfl⟩
  · replace h := cF h c
    refine .inr ⟨Int, fun x => ([(1, .p (I x))], []), fun x => m_laws_szTermS_j2 x = some r, ?_, ?_⟩
    · refine .inl ?_
      refine ⟨Int × Int, fun x => ([(0, .p (.lst (a3.map gTerm.enc))), (1, .p (I x.1)), (5, .p (I x.2))], []), fun x k => m_laws_szTermS_l3 n a3 k x.1 x.2 = some r, ⟨((wr .i64 (a4 - ((a3.map gTerm.enc).length : Int))), 0), n, h, [], ⟨rfl, rfl, rfl, trivial⟩, trivial, rfl⟩, ?_⟩
      rintro ⟨v6, v7⟩ (_ | k3) h
      · exact ns h
      unfold m_laws_szTermS_l3 at h
      refine .inl ?_
      refine .inl ?_
      refine And.intro (fun c => ?_) (fun c => ?_)
      · replace h := cT h c
        refine .inl ?_
        refine .inl ?_
        obtain ⟨x6, hx6, h⟩ := bsm h
        refine And.intro (ix0 hx6) (Exists.intro _ (And.intro (gm (ixg hx6)) (And.intro rfl ?_)))
        obtain ⟨r6, hr6, h⟩ := bsm h
        refine callA (c_laws_szTerm n x6 v6 _ hr6) ?_
        refine .inl ?_
        refine And.intro (fun c => ?_) (fun c => ?_)
        · replace h := cT h c
          refine .inl ?_
          replace h := Option.some.inj h
          subst h
          exact ⟨[.p (I (-1))], [], ⟨[], ⟨rfl, trivial⟩, trivial, rfl⟩, rfl, rfl, rfl⟩
        · replace h := cF h c
          exact ⟨(r6, (wr .i64 (v7 + 1))), k3, h, Nat.lt_succ_self _, [], ⟨rfl, rfl, rfl, trivial⟩, trivial, rfl⟩
      · replace h := cF h c
        exact ⟨v6, h, [], ⟨rfl, trivial⟩, trivial, rfl⟩
    · rintro v5 h
      unfold m_laws_szTermS_j2 at h
      refine .inl ?_
      replace h := Option.some.inj h
      subst h
      exact ⟨[.p (I v5)], [], ⟨[], ⟨rfl, trivial⟩, trivial, rfl⟩, rfl, rfl, rfl⟩
def m_laws_szStringS_j2 (v14 : Int) : Option Int :=
  some v14
def m_laws_szStringS_l3 (a5 : List ByteArray) : Nat → Int → Int → Option Int
  | 0, _, _ => none
  | k3 + 1, v15, v16 =>
    bif (decide (v16 < ((a5.map S).length : Int))) then (
      (ix a5 v16).bind fun x12 =>
      bif (decide ((wr .i64 (v15 - (x12.size : Int))) < 0)) then (
        some (-1))
      else (
        (m_laws_szStringS_l3 a5 k3) (wr .i64 (v15 - (x12.size : Int))) (wr .i64 (v16 + 1))))
    else (
      m_laws_szStringS_j2 v15)
def m_laws_szStringS (n : Nat) (a5 : List ByteArray) (a6 : Int) : Option Int :=
  bif (decide ((wr .i64 (a6 - ((a5.map S).length : Int))) < 0)) then (
    some (-1))
  else (
    m_laws_szStringS_l3 a5 n (wr .i64 (a6 - ((a5.map S).length : Int))) 0)
theorem c_laws_szStringS (n : Nat) (a5 : List ByteArray) (a6 : Int) (r : Int) (h : m_laws_szStringS n a5 a6 = some r) : FnP Try.prog 30 [.lst (a5.map S), I a6] [I r] := by
  unfold m_laws_szStringS at h
  refine fn_introJ Try.func30 rfl rfl rfl ?_
  refine .inl ?_
  refine .inl ?_
  refine .inl ?_
  refine .inl ?_
  refine And.intro (fun c => ?_) (fun c => ?_)
  · replace h := cT h c
    refine .inl ?_
    replace h := Option.some.inj h
    subst h
    exact ⟨[.p (I (-1))], [], ⟨[], ⟨rfl, trivial⟩, trivial, rfl⟩, rfl, rfl, rfl⟩
  · replace h := cF h c
    refine .inr ⟨Int, fun x => ([(1, .p (I x))], []), fun x => m_laws_szStringS_j2 x = some r, ?_, ?_⟩
    · refine .inl ?_
      refine ⟨Int × Int, fun x => ([(0, .p (.lst (a5.map S))), (1, .p (I x.1)), (5, .p (I x.2))], []), fun x k => m_laws_szStringS_l3 a5 k x.1 x.2 = some r, ⟨((wr .i64 (a6 - ((a5.map S).length : Int))), 0), n, h, [], ⟨rfl, rfl, rfl, trivial⟩, trivial, rfl⟩, ?_⟩
      rintro ⟨v15, v16⟩ (_ | k3) h
      · exact ns h
      unfold m_laws_szStringS_l3 at h
      refine .inl ?_
      refine .inl ?_
      refine And.intro (fun c => ?_) (fun c => ?_)
      · replace h := cT h c
        refine .inl ?_
        refine .inl ?_
        obtain ⟨x12, hx12, h⟩ := bsm h
        refine And.intro (ix0 hx12) (Exists.intro _ (And.intro (gm (ixg hx12)) (And.intro rfl ?_)))
        refine .inl ?_
        refine And.intro (fun c => ?_) (fun c => ?_)
        · replace h := cT h c
          refine .inl ?_
          replace h := Option.some.inj h
          subst h
          exact ⟨[.p (I (-1))], [], ⟨[], ⟨rfl, trivial⟩, trivial, rfl⟩, rfl, rfl, rfl⟩
        · replace h := cF h c
          exact ⟨((wr .i64 (v15 - (x12.size : Int))), (wr .i64 (v16 + 1))), k3, h, Nat.lt_succ_self _, [], ⟨rfl, rfl, rfl, trivial⟩, trivial, rfl⟩
      · replace h := cF h c
        exact ⟨v15, h, [], ⟨rfl, trivial⟩, trivial, rfl⟩
    · rintro v14 h
      unfold m_laws_szStringS_j2 at h
      refine .inl ?_
      replace h := Option.some.inj h
      subst h
      exact ⟨[.p (I v14)], [], ⟨[], ⟨rfl, trivial⟩, trivial, rfl⟩, rfl, rfl, rfl⟩
def m_laws_szIntS (n : Nat) (a7 : List Int) (a8 : Int) : Option Int :=
  bif (decide ((wr .i64 (a8 - ((a7.map I).length : Int))) < 0)) then (
    some (-1))
  else (
    some (wr .i64 (a8 - ((a7.map I).length : Int))))
theorem c_laws_szIntS (n : Nat) (a7 : List Int) (a8 : Int) (r : Int) (h : m_laws_szIntS n a7 a8 = some r) : FnP Try.prog 117 [.lst (a7.map I), I a8] [I r] := by
  unfold m_laws_szIntS at h
  refine fn_introJ Try.func117 rfl rfl rfl ?_
  refine .inl ?_
  refine .inl ?_
  refine .inl ?_
  refine .inl ?_
  refine And.intro (fun c => ?_) (fun c => ?_)
  · replace h := cT h c
    refine .inl ?_
    replace h := Option.some.inj h
    subst h
    exact ⟨[.p (I (-1))], [], ⟨[], ⟨rfl, trivial⟩, trivial, rfl⟩, rfl, rfl, rfl⟩
  · replace h := cF h c
    refine .inl ?_
    replace h := Option.some.inj h
    subst h
    exact ⟨[.p (I (wr .i64 (a8 - ((a7.map I).length : Int))))], [], ⟨[], ⟨rfl, trivial⟩, trivial, rfl⟩, rfl, rfl, rfl⟩
def m_laws_szProd (n : Nat) (a9 : gProd) (a10 : Int) : Option Int :=
  (m_laws_szIntS n a9.right_ a10).bind fun r7 =>
  bif (decide (r7 < 0)) then (
    some (-1))
  else (
    bif (decide ((wr .i64 (r7 - (a9.label_.size : Int))) < 0)) then (
      some (-1))
    else (
      some (wr .i64 (r7 - (a9.label_.size : Int)))))
theorem c_laws_szProd (n : Nat) (a9 : gProd) (a10 : Int) (r : Int) (h : m_laws_szProd n a9 a10 = some r) : FnP Try.prog 80 [a9.enc, I a10] [I r] := by
  unfold m_laws_szProd at h
  refine fn_introJ Try.func80 rfl rfl rfl ?_
  refine .inl ?_
  refine .inl ?_
  obtain ⟨r7, hr7, h⟩ := bsm h
  refine callA (c_laws_szIntS n a9.right_ a10 _ hr7) ?_
  refine .inl ?_
  refine .inl ?_
  refine And.intro (fun c => ?_) (fun c => ?_)
  · replace h := cT h c
    refine .inl ?_
    replace h := Option.some.inj h
    subst h
    exact ⟨[.p (I (-1))], [], ⟨[], ⟨rfl, trivial⟩, trivial, rfl⟩, rfl, rfl, rfl⟩
  · replace h := cF h c
    refine .inl ?_
    refine .inl ?_
    refine .inl ?_
    refine And.intro (fun c => ?_) (fun c => ?_)
    · replace h := cT h c
      refine .inl ?_
      replace h := Option.some.inj h
      subst h
      exact ⟨[.p (I (-1))], [], ⟨[], ⟨rfl, trivial⟩, trivial, rfl⟩, rfl, rfl, rfl⟩
    · replace h := cF h c
      refine .inl ?_
      replace h := Option.some.inj h
      subst h
      exact ⟨[.p (I (wr .i64 (r7 - (a9.label_.size : Int))))], [], ⟨[], ⟨rfl, trivial⟩, trivial, rfl⟩, rfl, rfl, rfl⟩
def m_laws_szProdS_j2 (v23 : Int) : Option Int :=
  some v23
def m_laws_szProdS_l3 (n : Nat) (a11 : List gProd) : Nat → Int → Int → Option Int
  | 0, _, _ => none
  | k3 + 1, v24, v25 =>
    bif (decide (v25 < ((a11.map gProd.enc).length : Int))) then (
      (ix a11 v25).bind fun x18 =>
      (m_laws_szProd n x18 v24).bind fun r13 =>
      bif (decide (r13 < 0)) then (
        some (-1))
      else (
        (m_laws_szProdS_l3 n a11 k3) r13 (wr .i64 (v25 + 1))))
    else (
      m_laws_szProdS_j2 v24)
def m_laws_szProdS (n : Nat) (a11 : List gProd) (a12 : Int) : Option Int :=
  bif (decide ((wr .i64 (a12 - ((a11.map gProd.enc).length : Int))) < 0)) then (
    some (-1))
  else (
    m_laws_szProdS_l3 n a11 n (wr .i64 (a12 - ((a11.map gProd.enc).length : Int))) 0)
theorem c_laws_szProdS (n : Nat) (a11 : List gProd) (a12 : Int) (r : Int) (h : m_laws_szProdS n a11 a12 = some r) : FnP Try.prog 31 [.lst (a11.map gProd.enc), I a12] [I r] := by
  unfold m_laws_szProdS at h
  refine fn_introJ Try.func31 rfl rfl rfl ?_
  refine .inl ?_
  refine .inl ?_
  refine .inl ?_
  refine .inl ?_
  refine And.intro (fun c => ?_) (fun c => ?_)
  · replace h := cT h c
    refine .inl ?_
    replace h := Option.some.inj h
    subst h
    exact ⟨[.p (I (-1))], [], ⟨[], ⟨rfl, trivial⟩, trivial, rfl⟩, rfl, rfl, rfl⟩
  · replace h := cF h c
    refine .inr ⟨Int, fun x => ([(1, .p (I x))], []), fun x => m_laws_szProdS_j2 x = some r, ?_, ?_⟩
    · refine .inl ?_
      refine ⟨Int × Int, fun x => ([(0, .p (.lst (a11.map gProd.enc))), (1, .p (I x.1)), (5, .p (I x.2))], []), fun x k => m_laws_szProdS_l3 n a11 k x.1 x.2 = some r, ⟨((wr .i64 (a12 - ((a11.map gProd.enc).length : Int))), 0), n, h, [], ⟨rfl, rfl, rfl, trivial⟩, trivial, rfl⟩, ?_⟩
      rintro ⟨v24, v25⟩ (_ | k3) h
      · exact ns h
      unfold m_laws_szProdS_l3 at h
      refine .inl ?_
      refine .inl ?_
      refine And.intro (fun c => ?_) (fun c => ?_)
      · replace h := cT h c
        refine .inl ?_
        refine .inl ?_
        obtain ⟨x18, hx18, h⟩ := bsm h
        refine And.intro (ix0 hx18) (Exists.intro _ (And.intro (gm (ixg hx18)) (And.intro rfl ?_)))
        obtain ⟨r13, hr13, h⟩ := bsm h
        refine callA (c_laws_szProd n x18 v24 _ hr13) ?_
        refine .inl ?_
        refine And.intro (fun c => ?_) (fun c => ?_)
        · replace h := cT h c
          refine .inl ?_
          replace h := Option.some.inj h
          subst h
          exact ⟨[.p (I (-1))], [], ⟨[], ⟨rfl, trivial⟩, trivial, rfl⟩, rfl, rfl, rfl⟩
        · replace h := cF h c
          exact ⟨(r13, (wr .i64 (v25 + 1))), k3, h, Nat.lt_succ_self _, [], ⟨rfl, rfl, rfl, trivial⟩, trivial, rfl⟩
      · replace h := cF h c
        exact ⟨v24, h, [], ⟨rfl, trivial⟩, trivial, rfl⟩
    · rintro v23 h
      unfold m_laws_szProdS_j2 at h
      refine .inl ?_
      replace h := Option.some.inj h
      subst h
      exact ⟨[.p (I v23)], [], ⟨[], ⟨rfl, trivial⟩, trivial, rfl⟩, rfl, rfl, rfl⟩
def m_laws_szBnf (n : Nat) (a13 : gBnf) (a14 : Int) : Option Int :=
  (m_laws_szTermS n a13.terms_ a14).bind fun r14 =>
  bif (decide (r14 < 0)) then (
    some (-1))
  else (
    (m_laws_szStringS n a13.nons_ r14).bind fun r15 =>
    bif (decide (r15 < 0)) then (
      some (-1))
    else (
      (m_laws_szProdS n a13.prods_ r15).bind fun r16 =>
      bif (decide (r16 < 0)) then (
        some (-1))
      else (
        some r16)))
theorem c_laws_szBnf (n : Nat) (a13 : gBnf) (a14 : Int) (r : Int) (h : m_laws_szBnf n a13 a14 = some r) : FnP Try.prog 8 [a13.enc, I a14] [I r] := by
  unfold m_laws_szBnf at h
  refine fn_introJ Try.func8 rfl rfl rfl ?_
  refine .inl ?_
  refine .inl ?_
  obtain ⟨r14, hr14, h⟩ := bsm h
  refine callA (c_laws_szTermS n a13.terms_ a14 _ hr14) ?_
  refine .inl ?_
  refine .inl ?_
  refine And.intro (fun c => ?_) (fun c => ?_)
  · replace h := cT h c
    refine .inl ?_
    replace h := Option.some.inj h
    subst h
    exact ⟨[.p (I (-1))], [], ⟨[], ⟨rfl, trivial⟩, trivial, rfl⟩, rfl, rfl, rfl⟩
  · replace h := cF h c
    refine .inl ?_
    obtain ⟨r15, hr15, h⟩ := bsm h
    refine callA (c_laws_szStringS n a13.nons_ r14 _ hr15) ?_
    refine .inl ?_
    refine .inl ?_
    refine And.intro (fun c => ?_) (fun c => ?_)
    · replace h := cT h c
      refine .inl ?_
      replace h := Option.some.inj h
      subst h
      exact ⟨[.p (I (-1))], [], ⟨[], ⟨rfl, trivial⟩, trivial, rfl⟩, rfl, rfl, rfl⟩
    · replace h := cF h c
      refine .inl ?_
      obtain ⟨r16, hr16, h⟩ := bsm h
      refine callA (c_laws_szProdS n a13.prods_ r15 _ hr16) ?_
      refine .inl ?_
      refine .inl ?_
      refine And.intro (fun c => ?_) (fun c => ?_)
      · replace h := cT h c
        refine .inl ?_
        replace h := Option.some.inj h
        subst h
        exact ⟨[.p (I (-1))], [], ⟨[], ⟨rfl, trivial⟩, trivial, rfl⟩, rfl, rfl, rfl⟩
      · replace h := cF h c
        refine .inl ?_
        replace h := Option.some.inj h
        subst h
        exact ⟨[.p (I r16)], [], ⟨[], ⟨rfl, trivial⟩, trivial, rfl⟩, rfl, rfl, rfl⟩
def m_spec_l01Between (n : Nat) (a15 : Int) (a16 : Int) (a17 : Int) : Option Bool :=
  bif (decide (a15 ≥ a16)) then (
    some (decide (a15 ≤ a17)))
  else (
    some false)
theorem c_spec_l01Between (n : Nat) (a15 : Int) (a16 : Int) (a17 : Int) (r : Bool) (h : m_spec_l01Between n a15 a16 a17 = some r) : FnP Try.prog 56 [I a15, I a16, I a17] [B r] := by
  unfold m_spec_l01Between at h
  refine fn_introJ Try.func56 rfl rfl rfl ?_
  refine .inl ?_
  refine .inl ?_
  refine And.intro (fun c => ?_) (fun c => ?_)
  · replace h := cT h c
    refine And.intro (fun _ => ?_) (fun c => absurd c (by decide))
    refine And.intro (fun _ => ?_) (fun c => absurd c (by decide))
    refine And.intro (fun _ => ?_) (fun c => absurd c (by decide))
    replace h := Option.some.inj h
    subst h
    exact ⟨[.p (B (decide (a15 ≤ a17)))], [], ⟨[], ⟨rfl, trivial⟩, trivial, rfl⟩, rfl, rfl, rfl⟩
  · replace h := cF h c
    refine And.intro (fun c => absurd c (by decide)) (fun _ => ?_)
    refine And.intro (fun c => absurd c (by decide)) (fun _ => ?_)
    refine And.intro (fun c => absurd c (by decide)) (fun _ => ?_)
    replace h := Option.some.inj h
    subst h
    exact ⟨[.p (B false)], [], ⟨[], ⟨rfl, trivial⟩, trivial, rfl⟩, rfl, rfl, rfl⟩
def m_spec_l01Letter (n : Nat) (a18 : Int) : Option Bool :=
  bif (decide (a18 ≥ 97)) then (
    bif (decide (a18 ≤ 122)) then (
      some true)
    else (
      bif (decide (a18 ≥ 65)) then (
        some (decide (a18 ≤ 90)))
      else (
        some false)))
  else (
    bif (decide (a18 ≥ 65)) then (
      some (decide (a18 ≤ 90)))
    else (
      some false))
theorem c_spec_l01Letter (n : Nat) (a18 : Int) (r : Bool) (h : m_spec_l01Letter n a18 = some r) : FnP Try.prog 98 [.raw (.int .u8 a18)] [B r] := by
  unfold m_spec_l01Letter at h
  refine fn_introJ Try.func98 rfl rfl rfl ?_
  refine .inl ?_
  refine .inl ?_
  refine And.intro (fun c => ?_) (fun c => ?_)
  · replace h := cT h c
    refine And.intro (fun _ => ?_) (fun c => absurd c (by decide))
    refine And.intro (fun _ => ?_) (fun c => absurd c (by decide))
    refine And.intro (fun c => ?_) (fun c => ?_)
    · replace h := cF h c
      refine And.intro (fun _ => ?_) (fun c => absurd c (by decide))
      refine And.intro (fun _ => ?_) (fun c => absurd c (by decide))
      refine And.intro (fun c => ?_) (fun c => ?_)
      · replace h := cT h c
        refine And.intro (fun _ => ?_) (fun c => absurd c (by decide))
        refine And.intro (fun _ => ?_) (fun c => absurd c (by decide))
        refine And.intro (fun _ => ?_) (fun c => absurd c (by decide))
        refine And.intro (fun c => absurd c (by decide)) (fun _ => ?_)
        replace h := Option.some.inj h
        subst h
        exact ⟨[.p (B (decide (a18 ≤ 90)))], [], ⟨[], ⟨rfl, trivial⟩, trivial, rfl⟩, rfl, rfl, rfl⟩
      · replace h := cF h c
        refine And.intro (fun c => absurd c (by decide)) (fun _ => ?_)
        refine And.intro (fun _ => ?_) (fun c => absurd c (by decide))
        refine And.intro (fun c => absurd c (by decide)) (fun _ => ?_)
        refine And.intro (fun c => absurd c (by decide)) (fun _ => ?_)
        replace h := Option.some.inj h
        subst h
        exact ⟨[.p (B false)], [], ⟨[], ⟨rfl, trivial⟩, trivial, rfl⟩, rfl, rfl, rfl⟩
    · replace h := cT h c
      refine And.intro (fun c => absurd c (by decide)) (fun _ => ?_)
      refine And.intro (fun c => absurd c (by decide)) (fun _ => ?_)
      refine And.intro (fun c => absurd c (by decide)) (fun _ => ?_)
      refine And.intro (fun _ => ?_) (fun c => absurd c (by decide))
      replace h := Option.some.inj h
      subst h
      exact ⟨[.p (B true)], [], ⟨[], ⟨rfl, trivial⟩, trivial, rfl⟩, rfl, rfl, rfl⟩
  · replace h := cF h c
    refine And.intro (fun c => absurd c (by decide)) (fun _ => ?_)
    refine And.intro (fun c => absurd c (by decide)) (fun _ => ?_)
    refine And.intro (fun _ => ?_) (fun c => absurd c (by decide))
    refine And.intro (fun _ => ?_) (fun c => absurd c (by decide))
    refine And.intro (fun _ => ?_) (fun c => absurd c (by decide))
    refine And.intro (fun c => ?_) (fun c => ?_)
    · replace h := cT h c
      refine And.intro (fun _ => ?_) (fun c => absurd c (by decide))
      refine And.intro (fun _ => ?_) (fun c => absurd c (by decide))
      refine And.intro (fun _ => ?_) (fun c => absurd c (by decide))
      refine And.intro (fun c => absurd c (by decide)) (fun _ => ?_)
      replace h := Option.some.inj h
      subst h
      exact ⟨[.p (B (decide (a18 ≤ 90)))], [], ⟨[], ⟨rfl, trivial⟩, trivial, rfl⟩, rfl, rfl, rfl⟩
    · replace h := cF h c
      refine And.intro (fun c => absurd c (by decide)) (fun _ => ?_)
      refine And.intro (fun _ => ?_) (fun c => absurd c (by decide))
      refine And.intro (fun c => absurd c (by decide)) (fun _ => ?_)
      refine And.intro (fun c => absurd c (by decide)) (fun _ => ?_)
      replace h := Option.some.inj h
      subst h
      exact ⟨[.p (B false)], [], ⟨[], ⟨rfl, trivial⟩, trivial, rfl⟩, rfl, rfl, rfl⟩
def m_spec_l01Digit (n : Nat) (a19 : Int) : Option Bool :=
  bif (decide (a19 ≥ 48)) then (
    some (decide (a19 ≤ 57)))
  else (
    some false)
theorem c_spec_l01Digit (n : Nat) (a19 : Int) (r : Bool) (h : m_spec_l01Digit n a19 = some r) : FnP Try.prog 123 [.raw (.int .u8 a19)] [B r] := by
  unfold m_spec_l01Digit at h
  refine fn_introJ Try.func123 rfl rfl rfl ?_
  refine .inl ?_
  refine .inl ?_
  refine And.intro (fun c => ?_) (fun c => ?_)
  · replace h := cT h c
    refine And.intro (fun _ => ?_) (fun c => absurd c (by decide))
    refine And.intro (fun _ => ?_) (fun c => absurd c (by decide))
    replace h := Option.some.inj h
    subst h
    exact ⟨[.p (B (decide (a19 ≤ 57)))], [], ⟨[], ⟨rfl, trivial⟩, trivial, rfl⟩, rfl, rfl, rfl⟩
  · replace h := cF h c
    refine And.intro (fun c => absurd c (by decide)) (fun _ => ?_)
    refine And.intro (fun c => absurd c (by decide)) (fun _ => ?_)
    replace h := Option.some.inj h
    subst h
    exact ⟨[.p (B false)], [], ⟨[], ⟨rfl, trivial⟩, trivial, rfl⟩, rfl, rfl, rfl⟩
def m_spec_l01NameByte (n : Nat) (a20 : Int) : Option Bool :=
  (m_spec_l01Letter n a20).bind fun r17 =>
  bif r17 then (
    some true)
  else (
    (m_spec_l01Digit n a20).bind fun r18 =>
    bif r18 then (
      some true)
    else (
      some (a20 == 95)))
theorem c_spec_l01NameByte (n : Nat) (a20 : Int) (r : Bool) (h : m_spec_l01NameByte n a20 = some r) : FnP Try.prog 99 [.raw (.int .u8 a20)] [B r] := by
  unfold m_spec_l01NameByte at h
  refine fn_introJ Try.func99 rfl rfl rfl ?_
  refine .inl ?_
  refine .inl ?_
  obtain ⟨r17, hr17, h⟩ := bsm h
  refine callA (c_spec_l01Letter n a20 _ hr17) ?_
  refine And.intro (fun c => ?_) (fun c => ?_)
  · replace h := cF h c
    refine And.intro (fun _ => ?_) (fun c => absurd c (by decide))
    obtain ⟨r18, hr18, h⟩ := bsm h
    refine callA (c_spec_l01Digit n a20 _ hr18) ?_
    refine And.intro (fun c => absurd c (by decide)) (fun _ => ?_)
    refine And.intro (fun c => ?_) (fun c => ?_)
    · replace h := cF h c
      refine And.intro (fun _ => ?_) (fun c => absurd c (by decide))
      refine And.intro (fun c => absurd c (by decide)) (fun _ => ?_)
      replace h := Option.some.inj h
      subst h
      exact ⟨[.p (B (a20 == 95))], [], ⟨[], ⟨rfl, trivial⟩, trivial, rfl⟩, rfl, rfl, rfl⟩
    · replace h := cT h c
      refine And.intro (fun c => absurd c (by decide)) (fun _ => ?_)
      refine And.intro (fun _ => ?_) (fun c => absurd c (by decide))
      replace h := Option.some.inj h
      subst h
      exact ⟨[.p (B true)], [], ⟨[], ⟨rfl, trivial⟩, trivial, rfl⟩, rfl, rfl, rfl⟩
  · replace h := cT h c
    refine And.intro (fun c => absurd c (by decide)) (fun _ => ?_)
    refine And.intro (fun _ => ?_) (fun c => absurd c (by decide))
    refine And.intro (fun c => absurd c (by decide)) (fun _ => ?_)
    refine And.intro (fun c => absurd c (by decide)) (fun _ => ?_)
    refine And.intro (fun _ => ?_) (fun c => absurd c (by decide))
    replace h := Option.some.inj h
    subst h
    exact ⟨[.p (B true)], [], ⟨[], ⟨rfl, trivial⟩, trivial, rfl⟩, rfl, rfl, rfl⟩
def m_spec_l01Name_j2 : Option Bool :=
  some true
def m_spec_l01Name_l3 (n : Nat) (a21 : ByteArray) : Nat → Int → Option Bool
  | 0, _ => none
  | k3 + 1, v30 =>
    bif (decide (v30 < (a21.size : Int))) then (
      gp (0 ≤ v30 ∧ v30 < (a21.size : Int)) <|
      (m_spec_l01NameByte n (bt a21 v30)).bind fun r26 =>
      bif (!r26) then (
        some false)
      else (
        (m_spec_l01Name_l3 n a21 k3) (wr .i64 (v30 + 1))))
    else (
      m_spec_l01Name_j2)
def m_spec_l01Name (n : Nat) (a21 : ByteArray) : Option Bool :=
  bif (decide ((a21.size : Int) < 1)) then (
    some false)
  else (
    bif (decide ((a21.size : Int) > 24)) then (
      some false)
    else (
      gp (0 ≤ (0 : Int) ∧ (0 : Int) < (a21.size : Int)) <|
      (m_spec_l01Letter n (bt a21 0)).bind fun r20 =>
      bif (!r20) then (
        some false)
      else (
        m_spec_l01Name_l3 n a21 n 1)))
theorem c_spec_l01Name (n : Nat) (a21 : ByteArray) (r : Bool) (h : m_spec_l01Name n a21 = some r) : FnP Try.prog 55 [S a21] [B r] := by
  unfold m_spec_l01Name at h
  refine fn_introJ Try.func55 rfl rfl rfl ?_
  refine .inl ?_
  refine .inl ?_
  refine .inl ?_
  refine And.intro (fun c => ?_) (fun c => ?_)
  · replace h := cF h c
    refine And.intro (fun _ => ?_) (fun c => absurd c (by decide))
    refine And.intro (fun _ => ?_) (fun c => absurd c (by decide))
    refine And.intro (fun c => absurd c (by decide)) (fun _ => ?_)
    refine And.intro (fun c => ?_) (fun c => ?_)
    · replace h := cF h c
      refine And.intro (fun _ => ?_) (fun c => absurd c (by decide))
      obtain ⟨g8, h⟩ := gpT h
      refine And.intro g8 ?_
      refine And.intro (fun _ => ?_) (fun c => absurd c (by decide))
      obtain ⟨r20, hr20, h⟩ := bsm h
      refine callA (c_spec_l01Letter n (bt a21 0) _ hr20) ?_
      refine And.intro (fun _ => ?_) (fun c => absurd c (by decide))
      refine And.intro (fun c => absurd c (by decide)) (fun _ => ?_)
      refine And.intro (fun c => ?_) (fun c => ?_)
      · replace h := cT h c
        refine .inl ?_
        replace h := Option.some.inj h
        subst h
        exact ⟨[.p (B false)], [], ⟨[], ⟨rfl, trivial⟩, trivial, rfl⟩, rfl, rfl, rfl⟩
      · replace h := cF h c
        refine .inr ⟨Unit, fun x => ([], []), fun x => m_spec_l01Name_j2 = some r, ?_, ?_⟩
        · refine .inl ?_
          refine ⟨Int, fun x => ([(0, .p (S a21)), (3, .p (I x))], []), fun x k => m_spec_l01Name_l3 n a21 k x = some r, ⟨1, n, h, [], ⟨rfl, rfl, trivial⟩, trivial, rfl⟩, ?_⟩
          rintro v30 (_ | k3) h
          · exact ns h
          unfold m_spec_l01Name_l3 at h
          refine .inl ?_
          refine .inl ?_
          refine And.intro (fun c => ?_) (fun c => ?_)
          · replace h := cT h c
            refine .inl ?_
            refine .inl ?_
            obtain ⟨g7, h⟩ := gpT h
            refine And.intro g7 ?_
            obtain ⟨r26, hr26, h⟩ := bsm h
            refine callA (c_spec_l01NameByte n (bt a21 v30) _ hr26) ?_
            refine And.intro (fun c => ?_) (fun c => ?_)
            · replace h := cT h c
              refine .inl ?_
              replace h := Option.some.inj h
              subst h
              exact ⟨[.p (B false)], [], ⟨[], ⟨rfl, trivial⟩, trivial, rfl⟩, rfl, rfl, rfl⟩
            · replace h := cF h c
              exact ⟨(wr .i64 (v30 + 1)), k3, h, Nat.lt_succ_self _, [], ⟨rfl, rfl, trivial⟩, trivial, rfl⟩
          · replace h := cF h c
            exact ⟨(), h, [], trivial, trivial, rfl⟩
        · rintro _ h
          unfold m_spec_l01Name_j2 at h
          refine .inl ?_
          replace h := Option.some.inj h
          subst h
          exact ⟨[.p (B true)], [], ⟨[], ⟨rfl, trivial⟩, trivial, rfl⟩, rfl, rfl, rfl⟩
    · replace h := cT h c
      refine And.intro (fun c => absurd c (by decide)) (fun _ => ?_)
      refine And.intro (fun c => absurd c (by decide)) (fun _ => ?_)
      refine And.intro (fun c => absurd c (by decide)) (fun _ => ?_)
      refine And.intro (fun _ => ?_) (fun c => absurd c (by decide))
      refine And.intro (fun _ => ?_) (fun c => absurd c (by decide))
      refine .inl ?_
      replace h := Option.some.inj h
      subst h
      exact ⟨[.p (B false)], [], ⟨[], ⟨rfl, trivial⟩, trivial, rfl⟩, rfl, rfl, rfl⟩
  · replace h := cT h c
    refine And.intro (fun c => absurd c (by decide)) (fun _ => ?_)
    refine And.intro (fun c => absurd c (by decide)) (fun _ => ?_)
    refine And.intro (fun _ => ?_) (fun c => absurd c (by decide))
    refine And.intro (fun c => absurd c (by decide)) (fun _ => ?_)
    refine And.intro (fun c => absurd c (by decide)) (fun _ => ?_)
    refine And.intro (fun c => absurd c (by decide)) (fun _ => ?_)
    refine And.intro (fun c => absurd c (by decide)) (fun _ => ?_)
    refine And.intro (fun _ => ?_) (fun c => absurd c (by decide))
    refine And.intro (fun _ => ?_) (fun c => absurd c (by decide))
    refine .inl ?_
    replace h := Option.some.inj h
    subst h
    exact ⟨[.p (B false)], [], ⟨[], ⟨rfl, trivial⟩, trivial, rfl⟩, rfl, rfl, rfl⟩
def m_spec_l03At_j2 : Option Int :=
  some (-1)
def m_spec_l03At_l3 (a22 : List ByteArray) (a23 : ByteArray) : Nat → Int → Option Int
  | 0, _ => none
  | k3 + 1, v34 =>
    bif (decide (v34 < ((a22.map S).length : Int))) then (
      (ix a22 v34).bind fun x24 =>
      bif (decide (x24 = a23)) then (
        some v34)
      else (
        (m_spec_l03At_l3 a22 a23 k3) (wr .i64 (v34 + 1))))
    else (
      m_spec_l03At_j2)
def m_spec_l03At (n : Nat) (a22 : List ByteArray) (a23 : ByteArray) : Option Int :=
  m_spec_l03At_l3 a22 a23 n 0
theorem c_spec_l03At (n : Nat) (a22 : List ByteArray) (a23 : ByteArray) (r : Int) (h : m_spec_l03At n a22 a23 = some r) : FnP Try.prog 95 [.lst (a22.map S), S a23] [I r] := by
  unfold m_spec_l03At at h
  refine fn_introJ Try.func95 rfl rfl rfl ?_
  refine .inl ?_
  refine .inr ⟨Unit, fun x => ([], []), fun x => m_spec_l03At_j2 = some r, ?_, ?_⟩
  · refine .inl ?_
    refine ⟨Int, fun x => ([(0, .p (.lst (a22.map S))), (1, .p (S a23)), (5, .p (I x))], []), fun x k => m_spec_l03At_l3 a22 a23 k x = some r, ⟨0, n, h, [], ⟨rfl, rfl, rfl, trivial⟩, trivial, rfl⟩, ?_⟩
    rintro v34 (_ | k3) h
    · exact ns h
    unfold m_spec_l03At_l3 at h
    refine .inl ?_
    refine .inl ?_
    refine And.intro (fun c => ?_) (fun c => ?_)
    · replace h := cT h c
      refine .inl ?_
      refine .inl ?_
      obtain ⟨x24, hx24, h⟩ := bsm h
      refine And.intro (ix0 hx24) (Exists.intro _ (And.intro (gm (ixg hx24)) (And.intro rfl ?_)))
      refine And.intro (fun c => ?_) (fun c => ?_)
      · replace h := cT h c
        refine .inl ?_
        replace h := Option.some.inj h
        subst h
        exact ⟨[.p (I v34)], [], ⟨[], ⟨rfl, trivial⟩, trivial, rfl⟩, rfl, rfl, rfl⟩
      · replace h := cF h c
        exact ⟨(wr .i64 (v34 + 1)), k3, h, Nat.lt_succ_self _, [], ⟨rfl, rfl, rfl, trivial⟩, trivial, rfl⟩
    · replace h := cF h c
      exact ⟨(), h, [], trivial, trivial, rfl⟩
  · rintro _ h
    unfold m_spec_l03At_j2 at h
    refine .inl ?_
    replace h := Option.some.inj h
    subst h
    exact ⟨[.p (I (-1))], [], ⟨[], ⟨rfl, trivial⟩, trivial, rfl⟩, rfl, rfl, rfl⟩
def m_spec_l04Strength (n : Nat) (a24 : Int) (a25 : Int) : Option Bool :=
  (m_spec_l01Between n a24 0 8).bind fun r27 =>
  bif r27 then (
    bif (a24 == 0) then (
      bif (a25 == 0) then (
        some true)
      else (
        bif (decide (a24 > 0)) then (
          (m_spec_l01Between n a25 1 3).bind fun r28 =>
          some r28)
        else (
          some false)))
    else (
      bif (decide (a24 > 0)) then (
        (m_spec_l01Between n a25 1 3).bind fun r29 =>
        some r29)
      else (
        some false)))
  else (
    some false)
theorem c_spec_l04Strength (n : Nat) (a24 : Int) (a25 : Int) (r : Bool) (h : m_spec_l04Strength n a24 a25 = some r) : FnP Try.prog 118 [I a24, I a25] [B r] := by
  unfold m_spec_l04Strength at h
  refine fn_introJ Try.func118 rfl rfl rfl ?_
  refine .inl ?_
  refine .inl ?_
  obtain ⟨r27, hr27, h⟩ := bsm h
  refine callA (c_spec_l01Between n a24 0 8 _ hr27) ?_
  refine And.intro (fun c => ?_) (fun c => ?_)
  · replace h := cT h c
    refine And.intro (fun _ => ?_) (fun c => absurd c (by decide))
    refine And.intro (fun _ => ?_) (fun c => absurd c (by decide))
    refine And.intro (fun c => ?_) (fun c => ?_)
    · replace h := cT h c
      refine And.intro (fun _ => ?_) (fun c => absurd c (by decide))
      refine And.intro (fun _ => ?_) (fun c => absurd c (by decide))
      refine And.intro (fun _ => ?_) (fun c => absurd c (by decide))
      refine And.intro (fun _ => ?_) (fun c => absurd c (by decide))
      refine And.intro (fun c => ?_) (fun c => ?_)
      · replace h := cF h c
        refine And.intro (fun _ => ?_) (fun c => absurd c (by decide))
        refine And.intro (fun _ => ?_) (fun c => absurd c (by decide))
        refine And.intro (fun c => ?_) (fun c => ?_)
        · replace h := cT h c
          refine And.intro (fun _ => ?_) (fun c => absurd c (by decide))
          obtain ⟨r28, hr28, h⟩ := bsm h
          refine callA (c_spec_l01Between n a25 1 3 _ hr28) ?_
          refine And.intro (fun _ => ?_) (fun c => absurd c (by decide))
          refine And.intro (fun _ => ?_) (fun c => absurd c (by decide))
          refine And.intro (fun _ => ?_) (fun c => absurd c (by decide))
          refine And.intro (fun c => absurd c (by decide)) (fun _ => ?_)
          refine And.intro (fun _ => ?_) (fun c => absurd c (by decide))
          replace h := Option.some.inj h
          subst h
          exact ⟨[.p (B r28)], [], ⟨[], ⟨rfl, trivial⟩, trivial, rfl⟩, rfl, rfl, rfl⟩
        · replace h := cF h c
          refine And.intro (fun c => absurd c (by decide)) (fun _ => ?_)
          refine And.intro (fun _ => ?_) (fun c => absurd c (by decide))
          refine And.intro (fun c => absurd c (by decide)) (fun _ => ?_)
          refine And.intro (fun _ => ?_) (fun c => absurd c (by decide))
          refine And.intro (fun c => absurd c (by decide)) (fun _ => ?_)
          refine And.intro (fun _ => ?_) (fun c => absurd c (by decide))
          replace h := Option.some.inj h
          subst h
          exact ⟨[.p (B false)], [], ⟨[], ⟨rfl, trivial⟩, trivial, rfl⟩, rfl, rfl, rfl⟩
      · replace h := cT h c
        refine And.intro (fun c => absurd c (by decide)) (fun _ => ?_)
        refine And.intro (fun c => absurd c (by decide)) (fun _ => ?_)
        refine And.intro (fun c => absurd c (by decide)) (fun _ => ?_)
        refine And.intro (fun _ => ?_) (fun c => absurd c (by decide))
        refine And.intro (fun _ => ?_) (fun c => absurd c (by decide))
        refine And.intro (fun _ => ?_) (fun c => absurd c (by decide))
        replace h := Option.some.inj h
        subst h
        exact ⟨[.p (B true)], [], ⟨[], ⟨rfl, trivial⟩, trivial, rfl⟩, rfl, rfl, rfl⟩
    · replace h := cF h c
      refine And.intro (fun c => absurd c (by decide)) (fun _ => ?_)
      refine And.intro (fun _ => ?_) (fun c => absurd c (by decide))
      refine And.intro (fun c => absurd c (by decide)) (fun _ => ?_)
      refine And.intro (fun _ => ?_) (fun c => absurd c (by decide))
      refine And.intro (fun _ => ?_) (fun c => absurd c (by decide))
      refine And.intro (fun _ => ?_) (fun c => absurd c (by decide))
      refine And.intro (fun _ => ?_) (fun c => absurd c (by decide))
      refine And.intro (fun c => ?_) (fun c => ?_)
      · replace h := cT h c
        refine And.intro (fun _ => ?_) (fun c => absurd c (by decide))
        obtain ⟨r29, hr29, h⟩ := bsm h
        refine callA (c_spec_l01Between n a25 1 3 _ hr29) ?_
        refine And.intro (fun _ => ?_) (fun c => absurd c (by decide))
        refine And.intro (fun _ => ?_) (fun c => absurd c (by decide))
        refine And.intro (fun _ => ?_) (fun c => absurd c (by decide))
        refine And.intro (fun c => absurd c (by decide)) (fun _ => ?_)
        refine And.intro (fun _ => ?_) (fun c => absurd c (by decide))
        replace h := Option.some.inj h
        subst h
        exact ⟨[.p (B r29)], [], ⟨[], ⟨rfl, trivial⟩, trivial, rfl⟩, rfl, rfl, rfl⟩
      · replace h := cF h c
        refine And.intro (fun c => absurd c (by decide)) (fun _ => ?_)
        refine And.intro (fun _ => ?_) (fun c => absurd c (by decide))
        refine And.intro (fun c => absurd c (by decide)) (fun _ => ?_)
        refine And.intro (fun _ => ?_) (fun c => absurd c (by decide))
        refine And.intro (fun c => absurd c (by decide)) (fun _ => ?_)
        refine And.intro (fun _ => ?_) (fun c => absurd c (by decide))
        replace h := Option.some.inj h
        subst h
        exact ⟨[.p (B false)], [], ⟨[], ⟨rfl, trivial⟩, trivial, rfl⟩, rfl, rfl, rfl⟩
  · replace h := cF h c
    refine And.intro (fun c => absurd c (by decide)) (fun _ => ?_)
    refine And.intro (fun c => absurd c (by decide)) (fun _ => ?_)
    refine And.intro (fun c => absurd c (by decide)) (fun _ => ?_)
    refine And.intro (fun c => absurd c (by decide)) (fun _ => ?_)
    refine And.intro (fun c => absurd c (by decide)) (fun _ => ?_)
    refine And.intro (fun c => absurd c (by decide)) (fun _ => ?_)
    replace h := Option.some.inj h
    subst h
    exact ⟨[.p (B false)], [], ⟨[], ⟨rfl, trivial⟩, trivial, rfl⟩, rfl, rfl, rfl⟩
def m_spec_BnfOK_j30 : Option Bool :=
  some true
def m_spec_BnfOK_j44 (v70 : Int) (rec41 : Int → Option Bool) : Option Bool :=
  rec41 (wr .i64 (v70 + 1))
def m_spec_BnfOK_l46 (n : Nat) (a26 : gBnf) (v70 : Int) (rec41 : Int → Option Bool) (x171 : gProd) : Nat → Int → Option Bool
  | 0, _ => none
  | k46 + 1, v78 =>
    bif (decide (v78 < ((x171.right_.map I).length : Int))) then (
      (ix x171.right_ v78).bind fun x174 =>
      (m_spec_l01Between n x174 0 (wr .i64 ((wr .i64 (((a26.terms_.map gTerm.enc).length : Int) + ((a26.nons_.map S).length : Int))) - 1))).bind fun r179 =>
      bif (!r179) then (
        some false)
      else (
        (m_spec_BnfOK_l46 n a26 v70 rec41 x171 k46) (wr .i64 (v78 + 1))))
    else (
      m_spec_BnfOK_j44 v70 rec41)
def m_spec_BnfOK_j45 (n : Nat) (a26 : gBnf) (v70 : Int) (rec41 : Int → Option Bool) (x171 : gProd) : Option Bool :=
  m_spec_BnfOK_l46 n a26 v70 rec41 x171 n 0
def m_spec_BnfOK_l41 (n : Nat) (a26 : gBnf) : Nat → Int → Option Bool
  | 0, _ => none
  | k41 + 1, v70 =>
    bif (decide (v70 < ((a26.prods_.map gProd.enc).length : Int))) then (
      (ix a26.prods_ v70).bind fun x171 =>
      (m_spec_l01Between n x171.left_ ((a26.terms_.map gTerm.enc).length : Int) (wr .i64 ((wr .i64 (((a26.terms_.map gTerm.enc).length : Int) + ((a26.nons_.map S).length : Int))) - 1))).bind fun r180 =>
      bif (!r180) then (
        some false)
      else (
        bif (decide (((x171.right_.map I).length : Int) > 12)) then (
          some false)
        else (
          bif (!decide (x171.label_ = ⟨#[]⟩)) then (
            (m_spec_l01Name n x171.label_).bind fun r181 =>
            bif (!r181) then (
              some false)
            else (
              (m_spec_l04Strength n x171.level_ x171.assoc_).bind fun r182 =>
              bif (!r182) then (
                some false)
              else (
                m_spec_BnfOK_j45 n a26 v70 (m_spec_BnfOK_l41 n a26 k41) x171)))
          else (
            (m_spec_l04Strength n x171.level_ x171.assoc_).bind fun r183 =>
            bif (!r183) then (
              some false)
            else (
              m_spec_BnfOK_j45 n a26 v70 (m_spec_BnfOK_l41 n a26 k41) x171)))))
    else (
      m_spec_BnfOK_j30)
def m_spec_BnfOK_j13 (n : Nat) (a26 : gBnf) : Option Bool :=
  m_spec_BnfOK_l41 n a26 n 0
def m_spec_BnfOK_l47 (n : Nat) (a26 : gBnf) : Nat → Int → Option Bool
  | 0, _ => none
  | k47 + 1, v80 =>
    bif (decide (v80 < ((a26.nons_.map S).length : Int))) then (
      (ix a26.nons_ v80).bind fun x180 =>
      (m_spec_l03At n a26.nons_ x180).bind fun r189 =>
      bif (r189 != v80) then (
        some false)
      else (
        (m_spec_BnfOK_l47 n a26 k47) (wr .i64 (v80 + 1))))
    else (
      m_spec_BnfOK_j13 n a26)
def m_spec_BnfOK_j11 (n : Nat) (a26 : gBnf) : Option Bool :=
  m_spec_BnfOK_l47 n a26 n 0
def m_spec_BnfOK_j56 (v86 : Int) (rec54 : Int → Option Bool) : Option Bool :=
  rec54 (wr .i64 (v86 + 1))
def m_spec_BnfOK_l57 (a26 : gBnf) (v86 : Int) (rec54 : Int → Option Bool) : Nat → Int → Option Bool
  | 0, _ => none
  | k57 + 1, v94 =>
    bif (decide (v94 < v86)) then (
      (ix a26.terms_ v94).bind fun x275 =>
      (ix a26.terms_ v86).bind fun x276 =>
      bif (decide (x275.name_ = x276.name_)) then (
        some false)
      else (
        (m_spec_BnfOK_l57 a26 v86 rec54 k57) (wr .i64 (v94 + 1))))
    else (
      m_spec_BnfOK_j56 v86 rec54)
def m_spec_BnfOK_l54 (n : Nat) (a26 : gBnf) : Nat → Int → Option Bool
  | 0, _ => none
  | k54 + 1, v86 =>
    bif (decide (v86 < ((a26.terms_.map gTerm.enc).length : Int))) then (
      (ix a26.terms_ v86).bind fun x263 =>
      (ix a26.terms_ v86).bind fun x264 =>
      (m_spec_l04Strength n x263.level_ x264.assoc_).bind fun r201 =>
      bif (!r201) then (
        some false)
      else (
        m_spec_BnfOK_l57 a26 v86 (m_spec_BnfOK_l54 n a26 k54) n 0))
    else (
      m_spec_BnfOK_j11 n a26)
def m_spec_BnfOK (n : Nat) (a26 : gBnf) : Option Bool :=
  bif (decide (((a26.terms_.map gTerm.enc).length : Int) > 60)) then (
    some false)
  else (
    (m_spec_l01Between n ((a26.nons_.map S).length : Int) 1 100).bind fun r32 =>
    bif (!r32) then (
      some false)
    else (
      (m_spec_l01Between n a26.own_ 1 ((a26.nons_.map S).length : Int)).bind fun r33 =>
      bif (!r33) then (
        some false)
      else (
        bif (decide (((a26.prods_.map gProd.enc).length : Int) > 120)) then (
          some false)
        else (
          m_spec_BnfOK_l54 n a26 n 0))))
theorem c_spec_BnfOK (n : Nat) (a26 : gBnf) (r : Bool) (h : m_spec_BnfOK n a26 = some r) : FnP Try.prog 81 [a26.enc] [B r] := by
  unfold m_spec_BnfOK at h
  refine fn_introJ Try.func81 rfl rfl rfl ?_
  refine .inl ?_
  refine .inl ?_
  refine .inl ?_
  refine And.intro (fun c => ?_) (fun c => ?_)
  · replace h := cF h c
    refine And.intro (fun _ => ?_) (fun c => absurd c (by decide))
    refine And.intro (fun _ => ?_) (fun c => absurd c (by decide))
    refine And.intro (fun _ => ?_) (fun c => absurd c (by decide))
    obtain ⟨r32, hr32, h⟩ := bsm h
    refine callA (c_spec_l01Between n ((a26.nons_.map S).length : Int) 1 100 _ hr32) ?_
    refine And.intro (fun _ => ?_) (fun c => absurd c (by decide))
    refine And.intro (fun c => absurd c (by decide)) (fun _ => ?_)
    refine And.intro (fun c => ?_) (fun c => ?_)
    · replace h := cF h c
      refine And.intro (fun _ => ?_) (fun c => absurd c (by decide))
      refine And.intro (fun _ => ?_) (fun c => absurd c (by decide))
      refine And.intro (fun _ => ?_) (fun c => absurd c (by decide))
      refine And.intro (fun _ => ?_) (fun c => absurd c (by decide))
      refine And.intro (fun _ => ?_) (fun c => absurd c (by decide))
      obtain ⟨r33, hr33, h⟩ := bsm h
      refine callA (c_spec_l01Between n a26.own_ 1 ((a26.nons_.map S).length : Int) _ hr33) ?_
      refine And.intro (fun _ => ?_) (fun c => absurd c (by decide))
      refine And.intro (fun c => absurd c (by decide)) (fun _ => ?_)
      refine And.intro (fun c => ?_) (fun c => ?_)
      · replace h := cF h c
        refine And.intro (fun _ => ?_) (fun c => absurd c (by decide))
        refine And.intro (fun _ => ?_) (fun c => absurd c (by decide))
        refine And.intro (fun _ => ?_) (fun c => absurd c (by decide))
        refine And.intro (fun c => absurd c (by decide)) (fun _ => ?_)
        refine And.intro (fun c => ?_) (fun c => ?_)
        · replace h := cT h c
          refine .inl ?_
          replace h := Option.some.inj h
          subst h
          exact ⟨[.p (B false)], [], ⟨[], ⟨rfl, trivial⟩, trivial, rfl⟩, rfl, rfl, rfl⟩
        · replace h := cF h c
          refine .inr ⟨Unit, fun x => ([(1, .ptr 0 0)], [.box 34 [.p (.lst (a26.terms_.map gTerm.enc)), .p (.lst (a26.nons_.map S)), .p (I a26.own_), .p (.lst (a26.prods_.map gProd.enc))]]), fun x => m_spec_BnfOK_j11 n a26 = some r, ?_, ?_⟩
          · refine .inl ?_
            refine ⟨Int, fun x => ([(1, .ptr 0 0), (3, .p (I x))], [.box 34 [.p (.lst (a26.terms_.map gTerm.enc)), .p (.lst (a26.nons_.map S)), .p (I a26.own_), .p (.lst (a26.prods_.map gProd.enc))]]), fun x k => m_spec_BnfOK_l54 n a26 k x = some r, ⟨0, n, h, [], ⟨rfl, rfl, trivial⟩, ⟨⟨rfl, rfl, rfl, rfl, rfl, trivial⟩, trivial⟩, rfl⟩, ?_⟩
            rintro v86 (_ | k54) h
            · exact ns h
            unfold m_spec_BnfOK_l54 at h
            refine .inl ?_
            refine .inl ?_
            refine And.intro (fun c => ?_) (fun c => ?_)
            · replace h := cT h c
              refine .inr ⟨Unit, fun x => ([(1, .ptr 0 0), (3, .p (I v86))], [.box 34 [.p (.lst (a26.terms_.map gTerm.enc)), .p (.lst (a26.nons_.map S)), .p (I a26.own_), .p (.lst (a26.prods_.map gProd.enc))]]), fun x => m_spec_BnfOK_j56 v86 (m_spec_BnfOK_l54 n a26 k54) = some r, ?_, ?_⟩
              · refine .inl ?_
                refine .inl ?_
                refine ⟨[0, 2001, 2, 3, 4, 2005, 6, 2007, 8, 9, 10, 2011, 1012, 13], [], by decide +kernel, ?_⟩
                obtain ⟨x263, hx263, h⟩ := bsm h
                refine And.intro (ix0 hx263) (Exists.intro _ (And.intro (gm (ixg hx263)) (And.intro rfl ?_)))
                obtain ⟨x264, hx264, h⟩ := bsm h
                refine And.intro (ix0 hx264) (Exists.intro _ (And.intro (gm (ixg hx264)) (And.intro rfl ?_)))
                obtain ⟨r201, hr201, h⟩ := bsm h
                refine callA (c_spec_l04Strength n x263.level_ x264.assoc_ _ hr201) ?_
                refine And.intro (fun c => ?_) (fun c => ?_)
                · replace h := cT h c
                  refine .inl ?_
                  replace h := Option.some.inj h
                  subst h
                  exact ⟨[.p (B false)], [], ⟨[], ⟨rfl, trivial⟩, trivial, rfl⟩, rfl, rfl, rfl⟩
                · replace h := cF h c
                  refine .inl ?_
                  refine ⟨Int, fun x => ([(1, .ptr 0 0), (3, .p (I v86)), (4, .p (I x))], [.box 34 [.p (.lst (a26.terms_.map gTerm.enc)), .p (.lst (a26.nons_.map S)), .p (I a26.own_), .p (.lst (a26.prods_.map gProd.enc))]]), fun x k => m_spec_BnfOK_l57 a26 v86 (m_spec_BnfOK_l54 n a26 k54) k x = some r, ⟨0, n, h, [], ⟨rfl, rfl, rfl, trivial⟩, ⟨⟨rfl, rfl, rfl, rfl, rfl, trivial⟩, trivial⟩, rfl⟩, ?_⟩
                  rintro v94 (_ | k57) h
                  · exact ns h
                  unfold m_spec_BnfOK_l57 at h
                  refine .inl ?_
                  refine .inl ?_
                  refine And.intro (fun c => ?_) (fun c => ?_)
                  · replace h := cT h c
                    refine .inl ?_
                    refine .inl ?_
                    refine ⟨[0, 1, 2, 3, 4, 5, 6, 7, 8, 9, 10, 11, 12], [], by decide +kernel, ?_⟩
                    obtain ⟨x275, hx275, h⟩ := bsm h
                    refine And.intro (ix0 hx275) (Exists.intro _ (And.intro (gm (ixg hx275)) (And.intro rfl ?_)))
                    obtain ⟨x276, hx276, h⟩ := bsm h
                    refine And.intro (ix0 hx276) (Exists.intro _ (And.intro (gm (ixg hx276)) (And.intro rfl ?_)))
                    refine And.intro (fun c => ?_) (fun c => ?_)
                    · replace h := cT h c
                      refine .inl ?_
                      replace h := Option.some.inj h
                      subst h
                      exact ⟨[.p (B false)], [], ⟨[], ⟨rfl, trivial⟩, trivial, rfl⟩, rfl, rfl, rfl⟩
                    · replace h := cF h c
                      exact ⟨(wr .i64 (v94 + 1)), k57, h, Nat.lt_succ_self _, [], ⟨rfl, rfl, rfl, trivial⟩, ⟨⟨rfl, rfl, rfl, rfl, rfl, trivial⟩, trivial⟩, rfl⟩
                  · replace h := cF h c
                    exact ⟨(), h, [], ⟨rfl, rfl, trivial⟩, ⟨⟨rfl, rfl, rfl, rfl, rfl, trivial⟩, trivial⟩, rfl⟩
              · rintro _ h
                unfold m_spec_BnfOK_j56 at h
                exact ⟨(wr .i64 (v86 + 1)), k54, h, Nat.lt_succ_self _, [], ⟨rfl, rfl, trivial⟩, ⟨⟨rfl, rfl, rfl, rfl, rfl, trivial⟩, trivial⟩, rfl⟩
            · replace h := cF h c
              exact ⟨(), h, [], ⟨rfl, trivial⟩, ⟨⟨rfl, rfl, rfl, rfl, rfl, trivial⟩, trivial⟩, rfl⟩
          · rintro _ h
            unfold m_spec_BnfOK_j11 at h
            refine .inr ⟨Unit, fun x => ([(1, .ptr 0 0)], [.box 34 [.p (.lst (a26.terms_.map gTerm.enc)), .p (.lst (a26.nons_.map S)), .p (I a26.own_), .p (.lst (a26.prods_.map gProd.enc))]]), fun x => m_spec_BnfOK_j13 n a26 = some r, ?_, ?_⟩
            · refine .inl ?_
              refine ⟨Int, fun x => ([(1, .ptr 0 0), (5, .p (I x))], [.box 34 [.p (.lst (a26.terms_.map gTerm.enc)), .p (.lst (a26.nons_.map S)), .p (I a26.own_), .p (.lst (a26.prods_.map gProd.enc))]]), fun x k => m_spec_BnfOK_l47 n a26 k x = some r, ⟨0, n, h, [], ⟨rfl, rfl, trivial⟩, ⟨⟨rfl, rfl, rfl, rfl, rfl, trivial⟩, trivial⟩, rfl⟩, ?_⟩
              rintro v80 (_ | k47) h
              · exact ns h
              unfold m_spec_BnfOK_l47 at h
              refine .inl ?_
              refine .inl ?_
              refine And.intro (fun c => ?_) (fun c => ?_)
              · replace h := cT h c
                refine .inl ?_
                refine .inl ?_
                refine ⟨[0, 2001, 2, 2003, 4, 5, 2006, 8, 7, 9], [], by decide +kernel, ?_⟩
                obtain ⟨x180, hx180, h⟩ := bsm h
                refine And.intro (ix0 hx180) (Exists.intro _ (And.intro (gm (ixg hx180)) (And.intro rfl ?_)))
                obtain ⟨r189, hr189, h⟩ := bsm h
                refine callA (c_spec_l03At n a26.nons_ x180 _ hr189) ?_
                refine And.intro (fun c => ?_) (fun c => ?_)
                · replace h := cT h c
                  refine .inl ?_
                  replace h := Option.some.inj h
                  subst h
                  exact ⟨[.p (B false)], [], ⟨[], ⟨rfl, trivial⟩, trivial, rfl⟩, rfl, rfl, rfl⟩
                · replace h := cF h c
                  exact ⟨(wr .i64 (v80 + 1)), k47, h, Nat.lt_succ_self _, [], ⟨rfl, rfl, trivial⟩, ⟨⟨rfl, rfl, rfl, rfl, rfl, trivial⟩, trivial⟩, rfl⟩
              · replace h := cF h c
                exact ⟨(), h, [], ⟨rfl, trivial⟩, ⟨⟨rfl, rfl, rfl, rfl, rfl, trivial⟩, trivial⟩, rfl⟩
            · rintro _ h
              unfold m_spec_BnfOK_j13 at h
              refine .inl ?_
              refine .inr ⟨Unit, fun x => ([], []), fun x => m_spec_BnfOK_j30 = some r, ?_, ?_⟩
              · refine .inl ?_
                refine ⟨Int, fun x => ([(1, .ptr 0 0), (6, .p (I (wr .i64 (((a26.terms_.map gTerm.enc).length : Int) + ((a26.nons_.map S).length : Int))))), (7, .p (I x))], [.box 34 [.p (.lst (a26.terms_.map gTerm.enc)), .p (.lst (a26.nons_.map S)), .p (I a26.own_), .p (.lst (a26.prods_.map gProd.enc))]]), fun x k => m_spec_BnfOK_l41 n a26 k x = some r, ⟨0, n, h, [], ⟨rfl, rfl, rfl, trivial⟩, ⟨⟨rfl, rfl, rfl, rfl, rfl, trivial⟩, trivial⟩, rfl⟩, ?_⟩
                rintro v70 (_ | k41) h
                · exact ns h
                unfold m_spec_BnfOK_l41 at h
                refine .inl ?_
                refine .inl ?_
                refine And.intro (fun c => ?_) (fun c => ?_)
                · replace h := cT h c
                  refine .inr ⟨Unit, fun x => ([(1, .ptr 0 0), (6, .p (I (wr .i64 (((a26.terms_.map gTerm.enc).length : Int) + ((a26.nons_.map S).length : Int))))), (7, .p (I v70))], [.box 34 [.p (.lst (a26.terms_.map gTerm.enc)), .p (.lst (a26.nons_.map S)), .p (I a26.own_), .p (.lst (a26.prods_.map gProd.enc))]]), fun x => m_spec_BnfOK_j44 v70 (m_spec_BnfOK_l41 n a26 k41) = some r, ?_, ?_⟩
                  · refine .inl ?_
                    obtain ⟨x171, hx171, h⟩ := bsm h
                    refine And.intro (ix0 hx171) (Exists.intro _ (And.intro (gm (ixg hx171)) (And.intro rfl ?_)))
                    refine .inr ⟨Unit, fun x => ([(1, .ptr 0 0), (6, .p (I (wr .i64 (((a26.terms_.map gTerm.enc).length : Int) + ((a26.nons_.map S).length : Int))))), (7, .p (I v70)), (8, .ptr 1 0)], [.box 34 [.p (.lst (a26.terms_.map gTerm.enc)), .p (.lst (a26.nons_.map S)), .p (I a26.own_), .p (.lst (a26.prods_.map gProd.enc))], .box 112 [.p (I x171.left_), .p (.lst (x171.right_.map I)), .p (S x171.label_), .p (I x171.level_), .p (I x171.assoc_)]]), fun x => m_spec_BnfOK_j45 n a26 v70 (m_spec_BnfOK_l41 n a26 k41) x171 = some r, ?_, ?_⟩
                    · refine .inl ?_
                      obtain ⟨r180, hr180, h⟩ := bsm h
                      refine callA (c_spec_l01Between n x171.left_ ((a26.terms_.map gTerm.enc).length : Int) (wr .i64 ((wr .i64 (((a26.terms_.map gTerm.enc).length : Int) + ((a26.nons_.map S).length : Int))) - 1)) _ hr180) ?_
                      refine And.intro (fun c => ?_) (fun c => ?_)
                      · replace h := cF h c
                        refine And.intro (fun _ => ?_) (fun c => absurd c (by decide))
                        refine And.intro (fun _ => ?_) (fun c => absurd c (by decide))
                        refine And.intro (fun _ => ?_) (fun c => absurd c (by decide))
                        refine And.intro (fun c => absurd c (by decide)) (fun _ => ?_)
                        refine And.intro (fun c => ?_) (fun c => ?_)
                        · replace h := cF h c
                          refine And.intro (fun _ => ?_) (fun c => absurd c (by decide))
                          refine And.intro (fun _ => ?_) (fun c => absurd c (by decide))
                          refine And.intro (fun _ => ?_) (fun c => absurd c (by decide))
                          refine And.intro (fun c => ?_) (fun c => ?_)
                          · replace h := cT h c
                            refine And.intro (fun _ => ?_) (fun c => absurd c (by decide))
                            refine And.intro (fun _ => ?_) (fun c => absurd c (by decide))
                            obtain ⟨r181, hr181, h⟩ := bsm h
                            refine callA (c_spec_l01Name n x171.label_ _ hr181) ?_
                            refine And.intro (fun _ => ?_) (fun c => absurd c (by decide))
                            refine And.intro (fun _ => ?_) (fun c => absurd c (by decide))
                            refine And.intro (fun _ => ?_) (fun c => absurd c (by decide))
                            refine And.intro (fun c => absurd c (by decide)) (fun _ => ?_)
                            refine And.intro (fun c => ?_) (fun c => ?_)
                            · replace h := cF h c
                              refine And.intro (fun _ => ?_) (fun c => absurd c (by decide))
                              refine And.intro (fun _ => ?_) (fun c => absurd c (by decide))
                              refine And.intro (fun _ => ?_) (fun c => absurd c (by decide))
                              refine And.intro (fun _ => ?_) (fun c => absurd c (by decide))
                              obtain ⟨r182, hr182, h⟩ := bsm h
                              refine callA (c_spec_l04Strength n x171.level_ x171.assoc_ _ hr182) ?_
                              refine And.intro (fun _ => ?_) (fun c => absurd c (by decide))
                              refine And.intro (fun c => absurd c (by decide)) (fun _ => ?_)
                              refine And.intro (fun c => ?_) (fun c => ?_)
                              · replace h := cT h c
                                refine .inl ?_
                                replace h := Option.some.inj h
                                subst h
                                exact ⟨[.p (B false)], [], ⟨[], ⟨rfl, trivial⟩, trivial, rfl⟩, rfl, rfl, rfl⟩
                              · replace h := cF h c
                                exact ⟨(), h, [], ⟨rfl, rfl, rfl, rfl, trivial⟩, ⟨⟨rfl, rfl, rfl, rfl, rfl, trivial⟩, ⟨rfl, rfl, rfl, rfl, rfl, rfl, trivial⟩, trivial⟩, rfl⟩
                            · replace h := cT h c
                              refine And.intro (fun c => absurd c (by decide)) (fun _ => ?_)
                              refine And.intro (fun c => absurd c (by decide)) (fun _ => ?_)
                              refine And.intro (fun c => absurd c (by decide)) (fun _ => ?_)
                              refine And.intro (fun c => absurd c (by decide)) (fun _ => ?_)
                              refine And.intro (fun c => absurd c (by decide)) (fun _ => ?_)
                              refine And.intro (fun _ => ?_) (fun c => absurd c (by decide))
                              refine And.intro (fun _ => ?_) (fun c => absurd c (by decide))
                              refine .inl ?_
                              replace h := Option.some.inj h
                              subst h
                              exact ⟨[.p (B false)], [], ⟨[], ⟨rfl, trivial⟩, trivial, rfl⟩, rfl, rfl, rfl⟩
                          · replace h := cF h c
                            refine And.intro (fun c => absurd c (by decide)) (fun _ => ?_)
                            refine And.intro (fun c => absurd c (by decide)) (fun _ => ?_)
                            refine And.intro (fun c => absurd c (by decide)) (fun _ => ?_)
                            refine And.intro (fun _ => ?_) (fun c => absurd c (by decide))
                            refine And.intro (fun c => absurd c (by decide)) (fun _ => ?_)
                            refine And.intro (fun c => absurd c (by decide)) (fun _ => ?_)
                            refine And.intro (fun _ => ?_) (fun c => absurd c (by decide))
                            refine And.intro (fun _ => ?_) (fun c => absurd c (by decide))
                            refine And.intro (fun _ => ?_) (fun c => absurd c (by decide))
                            refine And.intro (fun _ => ?_) (fun c => absurd c (by decide))
                            refine And.intro (fun _ => ?_) (fun c => absurd c (by decide))
                            obtain ⟨r183, hr183, h⟩ := bsm h
                            refine callA (c_spec_l04Strength n x171.level_ x171.assoc_ _ hr183) ?_
                            refine And.intro (fun _ => ?_) (fun c => absurd c (by decide))
                            refine And.intro (fun c => absurd c (by decide)) (fun _ => ?_)
                            refine And.intro (fun c => ?_) (fun c => ?_)
                            · replace h := cT h c
                              refine .inl ?_
                              replace h := Option.some.inj h
                              subst h
                              exact ⟨[.p (B false)], [], ⟨[], ⟨rfl, trivial⟩, trivial, rfl⟩, rfl, rfl, rfl⟩
                            · replace h := cF h c
                              exact ⟨(), h, [], ⟨rfl, rfl, rfl, rfl, trivial⟩, ⟨⟨rfl, rfl, rfl, rfl, rfl, trivial⟩, ⟨rfl, rfl, rfl, rfl, rfl, rfl, trivial⟩, trivial⟩, rfl⟩
                        · replace h := cT h c
                          refine And.intro (fun c => absurd c (by decide)) (fun _ => ?_)
                          refine And.intro (fun c => absurd c (by decide)) (fun _ => ?_)
                          refine And.intro (fun c => absurd c (by decide)) (fun _ => ?_)
                          refine And.intro (fun c => absurd c (by decide)) (fun _ => ?_)
                          refine And.intro (fun _ => ?_) (fun c => absurd c (by decide))
                          refine And.intro (fun c => absurd c (by decide)) (fun _ => ?_)
                          refine And.intro (fun c => absurd c (by decide)) (fun _ => ?_)
                          refine And.intro (fun c => absurd c (by decide)) (fun _ => ?_)
                          refine And.intro (fun c => absurd c (by decide)) (fun _ => ?_)
                          refine And.intro (fun c => absurd c (by decide)) (fun _ => ?_)
                          refine And.intro (fun c => absurd c (by decide)) (fun _ => ?_)
                          refine And.intro (fun _ => ?_) (fun c => absurd c (by decide))
                          refine And.intro (fun _ => ?_) (fun c => absurd c (by decide))
                          refine .inl ?_
                          replace h := Option.some.inj h
                          subst h
                          exact ⟨[.p (B false)], [], ⟨[], ⟨rfl, trivial⟩, trivial, rfl⟩, rfl, rfl, rfl⟩
                      · replace h := cT h c
                        refine And.intro (fun c => absurd c (by decide)) (fun _ => ?_)
                        refine And.intro (fun c => absurd c (by decide)) (fun _ => ?_)
                        refine And.intro (fun c => absurd c (by decide)) (fun _ => ?_)
                        refine And.intro (fun _ => ?_) (fun c => absurd c (by decide))
                        refine And.intro (fun c => absurd c (by decide)) (fun _ => ?_)
                        refine And.intro (fun c => absurd c (by decide)) (fun _ => ?_)
                        refine And.intro (fun c => absurd c (by decide)) (fun _ => ?_)
                        refine And.intro (fun c => absurd c (by decide)) (fun _ => ?_)
                        refine And.intro (fun c => absurd c (by decide)) (fun _ => ?_)
                        refine And.intro (fun _ => ?_) (fun c => absurd c (by decide))
                        refine And.intro (fun c => absurd c (by decide)) (fun _ => ?_)
                        refine And.intro (fun c => absurd c (by decide)) (fun _ => ?_)
                        refine And.intro (fun c => absurd c (by decide)) (fun _ => ?_)
                        refine And.intro (fun c => absurd c (by decide)) (fun _ => ?_)
                        refine And.intro (fun c => absurd c (by decide)) (fun _ => ?_)
                        refine And.intro (fun c => absurd c (by decide)) (fun _ => ?_)
                        refine And.intro (fun _ => ?_) (fun c => absurd c (by decide))
                        refine And.intro (fun _ => ?_) (fun c => absurd c (by decide))
                        refine .inl ?_
                        replace h := Option.some.inj h
                        subst h
                        exact ⟨[.p (B false)], [], ⟨[], ⟨rfl, trivial⟩, trivial, rfl⟩, rfl, rfl, rfl⟩
                    · rintro _ h
                      unfold m_spec_BnfOK_j45 at h
                      refine .inl ?_
                      refine ⟨Int, fun x => ([(1, .ptr 0 0), (6, .p (I (wr .i64 (((a26.terms_.map gTerm.enc).length : Int) + ((a26.nons_.map S).length : Int))))), (7, .p (I v70)), (8, .ptr 1 0), (9, .p (I x))], [.box 34 [.p (.lst (a26.terms_.map gTerm.enc)), .p (.lst (a26.nons_.map S)), .p (I a26.own_), .p (.lst (a26.prods_.map gProd.enc))], .box 112 [.p (I x171.left_), .p (.lst (x171.right_.map I)), .p (S x171.label_), .p (I x171.level_), .p (I x171.assoc_)]]), fun x k => m_spec_BnfOK_l46 n a26 v70 (m_spec_BnfOK_l41 n a26 k41) x171 k x = some r, ⟨0, n, h, [], ⟨rfl, rfl, rfl, rfl, rfl, trivial⟩, ⟨⟨rfl, rfl, rfl, rfl, rfl, trivial⟩, ⟨rfl, rfl, rfl, rfl, rfl, rfl, trivial⟩, trivial⟩, rfl⟩, ?_⟩
                      rintro v78 (_ | k46) h
                      · exact ns h
                      unfold m_spec_BnfOK_l46 at h
                      refine .inl ?_
                      refine .inl ?_
                      refine And.intro (fun c => ?_) (fun c => ?_)
                      · replace h := cT h c
                        refine .inl ?_
                        refine .inl ?_
                        obtain ⟨x174, hx174, h⟩ := bsm h
                        refine And.intro (ix0 hx174) (Exists.intro _ (And.intro (gm (ixg hx174)) (And.intro rfl ?_)))
                        obtain ⟨r179, hr179, h⟩ := bsm h
                        refine callA (c_spec_l01Between n x174 0 (wr .i64 ((wr .i64 (((a26.terms_.map gTerm.enc).length : Int) + ((a26.nons_.map S).length : Int))) - 1)) _ hr179) ?_
                        refine And.intro (fun c => ?_) (fun c => ?_)
                        · replace h := cT h c
                          refine .inl ?_
                          replace h := Option.some.inj h
                          subst h
                          exact ⟨[.p (B false)], [], ⟨[], ⟨rfl, trivial⟩, trivial, rfl⟩, rfl, rfl, rfl⟩
                        · replace h := cF h c
                          exact ⟨(wr .i64 (v78 + 1)), k46, h, Nat.lt_succ_self _, [], ⟨rfl, rfl, rfl, rfl, rfl, trivial⟩, ⟨⟨rfl, rfl, rfl, rfl, rfl, trivial⟩, ⟨rfl, rfl, rfl, rfl, rfl, rfl, trivial⟩, trivial⟩, rfl⟩
                      · replace h := cF h c
                        exact ⟨(), h, [], ⟨rfl, rfl, rfl, trivial⟩, ⟨⟨rfl, rfl, rfl, rfl, rfl, trivial⟩, trivial⟩, rfl⟩
                  · rintro _ h
                    unfold m_spec_BnfOK_j44 at h
                    exact ⟨(wr .i64 (v70 + 1)), k41, h, Nat.lt_succ_self _, [], ⟨rfl, rfl, rfl, trivial⟩, ⟨⟨rfl, rfl, rfl, rfl, rfl, trivial⟩, trivial⟩, rfl⟩
                · replace h := cF h c
                  exact ⟨(), h, [], trivial, trivial, rfl⟩
              · rintro _ h
                unfold m_spec_BnfOK_j30 at h
                refine .inl ?_
                replace h := Option.some.inj h
                subst h
                exact ⟨[.p (B true)], [], ⟨[], ⟨rfl, trivial⟩, trivial, rfl⟩, rfl, rfl, rfl⟩
      · replace h := cT h c
        refine And.intro (fun c => absurd c (by decide)) (fun _ => ?_)
        refine And.intro (fun c => absurd c (by decide)) (fun _ => ?_)
        refine And.intro (fun c => absurd c (by decide)) (fun _ => ?_)
        refine And.intro (fun _ => ?_) (fun c => absurd c (by decide))
        refine And.intro (fun _ => ?_) (fun c => absurd c (by decide))
        refine .inl ?_
        replace h := Option.some.inj h
        subst h
        exact ⟨[.p (B false)], [], ⟨[], ⟨rfl, trivial⟩, trivial, rfl⟩, rfl, rfl, rfl⟩
    · replace h := cT h c
      refine And.intro (fun c => absurd c (by decide)) (fun _ => ?_)
      refine And.intro (fun c => absurd c (by decide)) (fun _ => ?_)
      refine And.intro (fun c => absurd c (by decide)) (fun _ => ?_)
      refine And.intro (fun c => absurd c (by decide)) (fun _ => ?_)
      refine And.intro (fun c => absurd c (by decide)) (fun _ => ?_)
      refine And.intro (fun c => absurd c (by decide)) (fun _ => ?_)
      refine And.intro (fun _ => ?_) (fun c => absurd c (by decide))
      refine And.intro (fun c => absurd c (by decide)) (fun _ => ?_)
      refine And.intro (fun c => absurd c (by decide)) (fun _ => ?_)
      refine And.intro (fun c => absurd c (by decide)) (fun _ => ?_)
      refine And.intro (fun c => absurd c (by decide)) (fun _ => ?_)
      refine And.intro (fun _ => ?_) (fun c => absurd c (by decide))
      refine And.intro (fun _ => ?_) (fun c => absurd c (by decide))
      refine .inl ?_
      replace h := Option.some.inj h
      subst h
      exact ⟨[.p (B false)], [], ⟨[], ⟨rfl, trivial⟩, trivial, rfl⟩, rfl, rfl, rfl⟩
  · replace h := cT h c
    refine And.intro (fun c => absurd c (by decide)) (fun _ => ?_)
    refine And.intro (fun c => absurd c (by decide)) (fun _ => ?_)
    refine And.intro (fun c => absurd c (by decide)) (fun _ => ?_)
    refine And.intro (fun c => absurd c (by decide)) (fun _ => ?_)
    refine And.intro (fun _ => ?_) (fun c => absurd c (by decide))
    refine And.intro (fun c => absurd c (by decide)) (fun _ => ?_)
    refine And.intro (fun c => absurd c (by decide)) (fun _ => ?_)
    refine And.intro (fun c => absurd c (by decide)) (fun _ => ?_)
    refine And.intro (fun c => absurd c (by decide)) (fun _ => ?_)
    refine And.intro (fun c => absurd c (by decide)) (fun _ => ?_)
    refine And.intro (fun c => absurd c (by decide)) (fun _ => ?_)
    refine And.intro (fun c => absurd c (by decide)) (fun _ => ?_)
    refine And.intro (fun _ => ?_) (fun c => absurd c (by decide))
    refine And.intro (fun c => absurd c (by decide)) (fun _ => ?_)
    refine And.intro (fun c => absurd c (by decide)) (fun _ => ?_)
    refine And.intro (fun c => absurd c (by decide)) (fun _ => ?_)
    refine And.intro (fun c => absurd c (by decide)) (fun _ => ?_)
    refine And.intro (fun _ => ?_) (fun c => absurd c (by decide))
    refine And.intro (fun _ => ?_) (fun c => absurd c (by decide))
    refine .inl ?_
    replace h := Option.some.inj h
    subst h
    exact ⟨[.p (B false)], [], ⟨[], ⟨rfl, trivial⟩, trivial, rfl⟩, rfl, rfl, rfl⟩
def m_spec_l06Codes (n : Nat) (a27 : gBnf) (a28 : Int) (a29 : List Int) : Option Int :=
  (m_spec_BnfOK n a27).bind fun r203 =>
  bif (!r203) then (
    some 1)
  else (
    bif (decide (((a29.map I).length : Int) > 4000)) then (
      some 1)
    else (
      (m_spec_l01Between n a28 0 (wr .i64 (((a27.nons_.map S).length : Int) - 1))).bind fun r204 =>
      bif (!r204) then (
        some 4)
      else (
        some 0)))
theorem c_spec_l06Codes (n : Nat) (a27 : gBnf) (a28 : Int) (a29 : List Int) (r : Int) (h : m_spec_l06Codes n a27 a28 a29 = some r) : FnP Try.prog 32 [a27.enc, I a28, .lst (a29.map I)] [I r] := by
  unfold m_spec_l06Codes at h
  refine fn_introJ Try.func32 rfl rfl rfl ?_
  refine .inl ?_
  refine .inl ?_
  refine .inl ?_
  obtain ⟨r203, hr203, h⟩ := bsm h
  refine callA (c_spec_BnfOK n a27 _ hr203) ?_
  refine And.intro (fun c => ?_) (fun c => ?_)
  · replace h := cF h c
    refine And.intro (fun _ => ?_) (fun c => absurd c (by decide))
    refine And.intro (fun _ => ?_) (fun c => absurd c (by decide))
    refine And.intro (fun c => absurd c (by decide)) (fun _ => ?_)
    refine And.intro (fun c => ?_) (fun c => ?_)
    · replace h := cT h c
      refine .inl ?_
      replace h := Option.some.inj h
      subst h
      exact ⟨[.p (I 1)], [], ⟨[], ⟨rfl, trivial⟩, trivial, rfl⟩, rfl, rfl, rfl⟩
    · replace h := cF h c
      refine .inl ?_
      refine .inl ?_
      obtain ⟨r204, hr204, h⟩ := bsm h
      refine callA (c_spec_l01Between n a28 0 (wr .i64 (((a27.nons_.map S).length : Int) - 1)) _ hr204) ?_
      refine And.intro (fun c => ?_) (fun c => ?_)
      · replace h := cT h c
        refine .inl ?_
        replace h := Option.some.inj h
        subst h
        exact ⟨[.p (I 4)], [], ⟨[], ⟨rfl, trivial⟩, trivial, rfl⟩, rfl, rfl, rfl⟩
      · replace h := cF h c
        refine .inl ?_
        replace h := Option.some.inj h
        subst h
        exact ⟨[.p (I 0)], [], ⟨[], ⟨rfl, trivial⟩, trivial, rfl⟩, rfl, rfl, rfl⟩
  · replace h := cT h c
    refine And.intro (fun c => absurd c (by decide)) (fun _ => ?_)
    refine And.intro (fun c => absurd c (by decide)) (fun _ => ?_)
    refine And.intro (fun _ => ?_) (fun c => absurd c (by decide))
    refine And.intro (fun _ => ?_) (fun c => absurd c (by decide))
    refine .inl ?_
    replace h := Option.some.inj h
    subst h
    exact ⟨[.p (I 1)], [], ⟨[], ⟨rfl, trivial⟩, trivial, rfl⟩, rfl, rfl, rfl⟩
def m_spec_l04Non (n : Nat) (a30 : gBnf) (a31 : Int) : Option Int :=
  some (wr .i64 (a31 - ((a30.terms_.map gTerm.enc).length : Int)))
theorem c_spec_l04Non (n : Nat) (a30 : gBnf) (a31 : Int) (r : Int) (h : m_spec_l04Non n a30 a31 = some r) : FnP Try.prog 73 [a30.enc, I a31] [I r] := by
  unfold m_spec_l04Non at h
  refine fn_introJ Try.func73 rfl rfl rfl ?_
  refine .inl ?_
  refine .inl ?_
  replace h := Option.some.inj h
  subst h
  exact ⟨[.p (I (wr .i64 (a31 - ((a30.terms_.map gTerm.enc).length : Int))))], [], ⟨[], ⟨rfl, trivial⟩, trivial, rfl⟩, rfl, rfl, rfl⟩
def m_spec_l06Reader_non_j7 (x296 : Int) (v110 : gl06Reader) (v111 : List gl06Deriv) : Option (gl06Deriv × gl06Reader) :=
  some ((gl06Deriv.mk x296 v111), v110)
def m_spec_l06Reader_non_j11 (v114 : Int) (rec10 : Int → gl06Reader → List gl06Deriv → Option (gl06Deriv × gl06Reader)) (v122 : gl06Reader) (v123 : List gl06Deriv) : Option (gl06Deriv × gl06Reader) :=
  rec10 (wr .i64 (v114 + 1)) v122 v123
def m_spec_l06Reader_non_l10 (self_spec_l06Reader_non : gl06Reader → Int → Option (gl06Deriv × gl06Reader)) (n : Nat) (x296 : Int) (x298 : gProd) : Nat → Int → gl06Reader → List gl06Deriv → Option (gl06Deriv × gl06Reader)
  | 0, _, _, _ => none
  | k10 + 1, v114, v115, v116 =>
    bif (decide (v114 < ((x298.right_.map I).length : Int))) then (
      bif (!v115.bad_) then (
        (ix x298.right_ v114).bind fun x322 =>
        (m_spec_l04Non n v115.b_ x322).bind fun r262 =>
        bif (decide (r262 ≥ 0)) then (
          (self_spec_l06Reader_non v115 r262).bind fun r264 =>
          gp (v116.length + ([r264.1] : List gl06Deriv).length ≤ 68719476736) <|
          m_spec_l06Reader_non_j11 v114 (m_spec_l06Reader_non_l10 self_spec_l06Reader_non n x296 x298 k10) r264.2 (v116 ++ [r264.1]))
        else (
          m_spec_l06Reader_non_j11 v114 (m_spec_l06Reader_non_l10 self_spec_l06Reader_non n x296 x298 k10) v115 v116))
      else (
        m_spec_l06Reader_non_j7 x296 v115 v116))
    else (
      m_spec_l06Reader_non_j7 x296 v115 v116)
def m_spec_l06Reader_non_j2 (self_spec_l06Reader_non : gl06Reader → Int → Option (gl06Deriv × gl06Reader)) (n : Nat) (a32 : gl06Reader) (v97 : Bool) : Option (gl06Deriv × gl06Reader) :=
  bif v97 then (
    some ((gl06Deriv.mk 0 []), (gl06Reader.mk a32.b_ a32.d_ a32.at_ true)))
  else (
    (ix a32.d_ a32.at_).bind fun x296 =>
    (ix a32.b_.prods_ x296).bind fun x298 =>
    m_spec_l06Reader_non_l10 self_spec_l06Reader_non n x296 x298 n 0 (gl06Reader.mk a32.b_ a32.d_ (wr .i64 (a32.at_ + 1)) a32.bad_) [])
def m_spec_l06Reader_non : Nat → gl06Reader → Int → Option (gl06Deriv × gl06Reader)
  | 0, _, _ => none
  | n + 1, a32, a33 =>
    bif a32.bad_ then (
      m_spec_l06Reader_non_j2 (m_spec_l06Reader_non n) n a32 true)
    else (
      bif (decide (a32.at_ ≥ ((a32.d_.map I).length : Int))) then (
        m_spec_l06Reader_non_j2 (m_spec_l06Reader_non n) n a32 true)
      else (
        (ix a32.d_ a32.at_).bind fun x326 =>
        (m_spec_l01Between n x326 0 (wr .i64 (((a32.b_.prods_.map gProd.enc).length : Int) - 1))).bind fun r267 =>
        bif (!r267) then (
          m_spec_l06Reader_non_j2 (m_spec_l06Reader_non n) n a32 true)
        else (
          (ix a32.d_ a32.at_).bind fun x327 =>
          (ix a32.b_.prods_ x327).bind fun x328 =>
          (m_spec_l04Non n a32.b_ x328.left_).bind fun r268 =>
          m_spec_l06Reader_non_j2 (m_spec_l06Reader_non n) n a32 (r268 != a33))))
theorem c_spec_l06Reader_non : ∀ (n : Nat) (a32 : gl06Reader) (a33 : Int) (r : gl06Deriv × gl06Reader) (h : m_spec_l06Reader_non n a32 a33 = some r), Sy.Fn Try.prog 82 [.ptr 0 0, .p (I a33)] [.box 128 [.p (.lst (a32.b_.terms_.map gTerm.enc)), .p (.lst (a32.b_.nons_.map S)), .p (I a32.b_.own_), .p (.lst (a32.b_.prods_.map gProd.enc)), .p (.lst (a32.d_.map I)), .p (I a32.at_), .p (B a32.bad_)]] (fun rs τ' => rs = [.p (r.1.enc)] ∧ τ' = [.box 128 [.p (.lst (r.2.b_.terms_.map gTerm.enc)), .p (.lst (r.2.b_.nons_.map S)), .p (I r.2.b_.own_), .p (.lst (r.2.b_.prods_.map gProd.enc)), .p (.lst (r.2.d_.map I)), .p (I r.2.at_), .p (B r.2.bad_)]])
  | 0, _, _, r, h => ns h
  | n + 1, a32, a33, r, h => by
    have ih_spec_l06Reader_non := c_spec_l06Reader_non n
    unfold m_spec_l06Reader_non at h
    refine fn_introJ Try.func82 rfl rfl rfl ?_
    refine .inl ?_
    refine .inl ?_
    refine .inr ⟨Bool, fun x => ([(0, .ptr 0 0), (4, .ptr 1 0), (72, .p (B x))], [.box 128 [.p (.lst (a32.b_.terms_.map gTerm.enc)), .p (.lst (a32.b_.nons_.map S)), .p (I a32.b_.own_), .p (.lst (a32.b_.prods_.map gProd.enc)), .p (.lst (a32.d_.map I)), .p (I a32.at_), .p (B a32.bad_)], .box 65 [.p (I 0), .tl []]]), fun x => m_spec_l06Reader_non_j2 (m_spec_l06Reader_non n) n a32 x = some r, ?_, ?_⟩
    · refine ⟨[0, 1, 2, 2003, 4, 5, 6, 7, 2008, 9, 10, 11, 2012, 13, 14, 15, 16, 17, 18, 19, 2020, 21, 22, 23, 2024, 25, 2026, 27, 28, 29, 30, 2031, 32, 33, 1034, 35, 36, 37, 38, 39, 40, 2041, 42, 43, 44, 45, 2046, 47, 48, 49, 2050, 51, 52, 53, 2054, 55, 2056, 57, 58, 2059, 61, 60, 62, 63], [], by decide +kernel, ?_⟩
      refine And.intro (fun c => ?_) (fun c => ?_)
      · replace h := cF h c
        refine And.intro (fun _ => ?_) (fun c => absurd c (by decide))
        refine And.intro (fun _ => ?_) (fun c => absurd c (by decide))
        refine And.intro (fun _ => ?_) (fun c => absurd c (by decide))
        refine And.intro (fun _ => ?_) (fun c => absurd c (by decide))
        refine And.intro (fun _ => ?_) (fun c => absurd c (by decide))
        refine And.intro (fun _ => ?_) (fun c => absurd c (by decide))
        refine And.intro (fun _ => ?_) (fun c => absurd c (by decide))
        refine And.intro (fun _ => ?_) (fun c => absurd c (by decide))
        refine And.intro (fun _ => ?_) (fun c => absurd c (by decide))
        refine And.intro (fun c => absurd c (by decide)) (fun _ => ?_)
        refine And.intro (fun c => ?_) (fun c => ?_)
        · replace h := cF h c
          refine And.intro (fun _ => ?_) (fun c => absurd c (by decide))
          refine And.intro (fun _ => ?_) (fun c => absurd c (by decide))
          refine And.intro (fun _ => ?_) (fun c => absurd c (by decide))
          refine And.intro (fun _ => ?_) (fun c => absurd c (by decide))
          refine And.intro (fun _ => ?_) (fun c => absurd c (by decide))
          refine And.intro (fun _ => ?_) (fun c => absurd c (by decide))
          refine And.intro (fun _ => ?_) (fun c => absurd c (by decide))
          refine And.intro (fun _ => ?_) (fun c => absurd c (by decide))
          obtain ⟨x326, hx326, h⟩ := bsm h
          refine And.intro (ix0 hx326) (Exists.intro _ (And.intro (gm (ixg hx326)) (And.intro rfl ?_)))
          refine And.intro (fun _ => ?_) (fun c => absurd c (by decide))
          refine And.intro (fun _ => ?_) (fun c => absurd c (by decide))
          refine And.intro (fun _ => ?_) (fun c => absurd c (by decide))
          refine And.intro (fun _ => ?_) (fun c => absurd c (by decide))
          refine And.intro (fun _ => ?_) (fun c => absurd c (by decide))
          refine And.intro (fun _ => ?_) (fun c => absurd c (by decide))
          refine And.intro (fun _ => ?_) (fun c => absurd c (by decide))
          refine And.intro (fun _ => ?_) (fun c => absurd c (by decide))
          refine And.intro (fun _ => ?_) (fun c => absurd c (by decide))
          obtain ⟨r267, hr267, h⟩ := bsm h
          refine callA (c_spec_l01Between n x326 0 (wr .i64 (((a32.b_.prods_.map gProd.enc).length : Int) - 1)) _ hr267) ?_
          refine And.intro (fun _ => ?_) (fun c => absurd c (by decide))
          refine And.intro (fun c => absurd c (by decide)) (fun _ => ?_)
          refine And.intro (fun c => ?_) (fun c => ?_)
          · replace h := cF h c
            refine And.intro (fun _ => ?_) (fun c => absurd c (by decide))
            refine And.intro (fun _ => ?_) (fun c => absurd c (by decide))
            refine And.intro (fun _ => ?_) (fun c => absurd c (by decide))
            refine And.intro (fun _ => ?_) (fun c => absurd c (by decide))
            refine And.intro (fun _ => ?_) (fun c => absurd c (by decide))
            refine And.intro (fun _ => ?_) (fun c => absurd c (by decide))
            refine And.intro (fun _ => ?_) (fun c => absurd c (by decide))
            refine And.intro (fun _ => ?_) (fun c => absurd c (by decide))
            refine And.intro (fun _ => ?_) (fun c => absurd c (by decide))
            refine And.intro (fun _ => ?_) (fun c => absurd c (by decide))
            refine And.intro (fun _ => ?_) (fun c => absurd c (by decide))
            refine And.intro (fun _ => ?_) (fun c => absurd c (by decide))
            refine And.intro (fun _ => ?_) (fun c => absurd c (by decide))
            refine And.intro (fun _ => ?_) (fun c => absurd c (by decide))
            refine And.intro (fun _ => ?_) (fun c => absurd c (by decide))
            refine And.intro (fun _ => ?_) (fun c => absurd c (by decide))
            refine And.intro (fun _ => ?_) (fun c => absurd c (by decide))
            obtain ⟨x327, hx327, h⟩ := bsm h
            refine And.intro (ix0 hx327) (Exists.intro _ (And.intro (gm (ixg hx327)) (And.intro rfl ?_)))
            refine And.intro (fun _ => ?_) (fun c => absurd c (by decide))
            refine And.intro (fun _ => ?_) (fun c => absurd c (by decide))
            obtain ⟨x328, hx328, h⟩ := bsm h
            refine And.intro (ix0 hx328) (Exists.intro _ (And.intro (gm (ixg hx328)) (And.intro rfl ?_)))
            refine And.intro (fun _ => ?_) (fun c => absurd c (by decide))
            refine And.intro (fun _ => ?_) (fun c => absurd c (by decide))
            refine And.intro (fun _ => ?_) (fun c => absurd c (by decide))
            refine And.intro (fun _ => ?_) (fun c => absurd c (by decide))
            obtain ⟨r268, hr268, h⟩ := bsm h
            refine callA (c_spec_l04Non n a32.b_ x328.left_ _ hr268) ?_
            refine And.intro (fun _ => ?_) (fun c => absurd c (by decide))
            refine And.intro (fun c => absurd c (by decide)) (fun _ => ?_)
            exact ⟨(r268 != a33), h, [], ⟨rfl, rfl, rfl, trivial⟩, ⟨⟨rfl, rfl, rfl, rfl, rfl, rfl, rfl, rfl, trivial⟩, ⟨rfl, rfl, rfl, trivial⟩, trivial⟩, rfl⟩
          · replace h := cT h c
            refine And.intro (fun c => absurd c (by decide)) (fun _ => ?_)
            refine And.intro (fun c => absurd c (by decide)) (fun _ => ?_)
            refine And.intro (fun c => absurd c (by decide)) (fun _ => ?_)
            refine And.intro (fun c => absurd c (by decide)) (fun _ => ?_)
            refine And.intro (fun c => absurd c (by decide)) (fun _ => ?_)
            refine And.intro (fun c => absurd c (by decide)) (fun _ => ?_)
            refine And.intro (fun c => absurd c (by decide)) (fun _ => ?_)
            refine And.intro (fun c => absurd c (by decide)) (fun _ => ?_)
            refine And.intro (fun c => absurd c (by decide)) (fun _ => ?_)
            refine And.intro (fun c => absurd c (by decide)) (fun _ => ?_)
            refine And.intro (fun c => absurd c (by decide)) (fun _ => ?_)
            refine And.intro (fun c => absurd c (by decide)) (fun _ => ?_)
            refine And.intro (fun c => absurd c (by decide)) (fun _ => ?_)
            refine And.intro (fun c => absurd c (by decide)) (fun _ => ?_)
            refine And.intro (fun c => absurd c (by decide)) (fun _ => ?_)
            refine And.intro (fun c => absurd c (by decide)) (fun _ => ?_)
            refine And.intro (fun c => absurd c (by decide)) (fun _ => ?_)
            refine And.intro (fun c => absurd c (by decide)) (fun _ => ?_)
            refine And.intro (fun c => absurd c (by decide)) (fun _ => ?_)
            refine And.intro (fun c => absurd c (by decide)) (fun _ => ?_)
            refine And.intro (fun c => absurd c (by decide)) (fun _ => ?_)
            refine And.intro (fun c => absurd c (by decide)) (fun _ => ?_)
            refine And.intro (fun c => absurd c (by decide)) (fun _ => ?_)
            refine And.intro (fun c => absurd c (by decide)) (fun _ => ?_)
            refine And.intro (fun _ => ?_) (fun c => absurd c (by decide))
            exact ⟨true, h, [], ⟨rfl, rfl, rfl, trivial⟩, ⟨⟨rfl, rfl, rfl, rfl, rfl, rfl, rfl, rfl, trivial⟩, ⟨rfl, rfl, rfl, trivial⟩, trivial⟩, rfl⟩
        · replace h := cT h c
          refine And.intro (fun c => absurd c (by decide)) (fun _ => ?_)
          refine And.intro (fun c => absurd c (by decide)) (fun _ => ?_)
          refine And.intro (fun c => absurd c (by decide)) (fun _ => ?_)
          refine And.intro (fun c => absurd c (by decide)) (fun _ => ?_)
          refine And.intro (fun c => absurd c (by decide)) (fun _ => ?_)
          refine And.intro (fun c => absurd c (by decide)) (fun _ => ?_)
          refine And.intro (fun c => absurd c (by decide)) (fun _ => ?_)
          refine And.intro (fun c => absurd c (by decide)) (fun _ => ?_)
          refine And.intro (fun c => absurd c (by decide)) (fun _ => ?_)
          refine And.intro (fun c => absurd c (by decide)) (fun _ => ?_)
          refine And.intro (fun c => absurd c (by decide)) (fun _ => ?_)
          refine And.intro (fun c => absurd c (by decide)) (fun _ => ?_)
          refine And.intro (fun c => absurd c (by decide)) (fun _ => ?_)
          refine And.intro (fun c => absurd c (by decide)) (fun _ => ?_)
          refine And.intro (fun c => absurd c (by decide)) (fun _ => ?_)
          refine And.intro (fun c => absurd c (by decide)) (fun _ => ?_)
          refine And.intro (fun c => absurd c (by decide)) (fun _ => ?_)
          refine And.intro (fun c => absurd c (by decide)) (fun _ => ?_)
          refine And.intro (fun _ => ?_) (fun c => absurd c (by decide))
          refine And.intro (fun c => absurd c (by decide)) (fun _ => ?_)
          refine And.intro (fun c => absurd c (by decide)) (fun _ => ?_)
          refine And.intro (fun c => absurd c (by decide)) (fun _ => ?_)
          refine And.intro (fun c => absurd c (by decide)) (fun _ => ?_)
          refine And.intro (fun c => absurd c (by decide)) (fun _ => ?_)
          refine And.intro (fun c => absurd c (by decide)) (fun _ => ?_)
          refine And.intro (fun c => absurd c (by decide)) (fun _ => ?_)
          refine And.intro (fun c => absurd c (by decide)) (fun _ => ?_)
          refine And.intro (fun c => absurd c (by decide)) (fun _ => ?_)
          refine And.intro (fun c => absurd c (by decide)) (fun _ => ?_)
          refine And.intro (fun c => absurd c (by decide)) (fun _ => ?_)
          refine And.intro (fun c => absurd c (by decide)) (fun _ => ?_)
          refine And.intro (fun c => absurd c (by decide)) (fun _ => ?_)
          refine And.intro (fun c => absurd c (by decide)) (fun _ => ?_)
          refine And.intro (fun c => absurd c (by decide)) (fun _ => ?_)
          refine And.intro (fun c => absurd c (by decide)) (fun _ => ?_)
          refine And.intro (fun c => absurd c (by decide)) (fun _ => ?_)
          refine And.intro (fun c => absurd c (by decide)) (fun _ => ?_)
          refine And.intro (fun c => absurd c (by decide)) (fun _ => ?_)
          refine And.intro (fun c => absurd c (by decide)) (fun _ => ?_)
          refine And.intro (fun c => absurd c (by decide)) (fun _ => ?_)
          refine And.intro (fun c => absurd c (by decide)) (fun _ => ?_)
          refine And.intro (fun c => absurd c (by decide)) (fun _ => ?_)
          refine And.intro (fun c => absurd c (by decide)) (fun _ => ?_)
          refine And.intro (fun c => absurd c (by decide)) (fun _ => ?_)
          refine And.intro (fun _ => ?_) (fun c => absurd c (by decide))
          exact ⟨true, h, [], ⟨rfl, rfl, rfl, trivial⟩, ⟨⟨rfl, rfl, rfl, rfl, rfl, rfl, rfl, rfl, trivial⟩, ⟨rfl, rfl, rfl, trivial⟩, trivial⟩, rfl⟩
      · replace h := cT h c
        refine And.intro (fun c => absurd c (by decide)) (fun _ => ?_)
        refine And.intro (fun c => absurd c (by decide)) (fun _ => ?_)
        refine And.intro (fun c => absurd c (by decide)) (fun _ => ?_)
        refine And.intro (fun c => absurd c (by decide)) (fun _ => ?_)
        refine And.intro (fun c => absurd c (by decide)) (fun _ => ?_)
        refine And.intro (fun c => absurd c (by decide)) (fun _ => ?_)
        refine And.intro (fun c => absurd c (by decide)) (fun _ => ?_)
        refine And.intro (fun c => absurd c (by decide)) (fun _ => ?_)
        refine And.intro (fun c => absurd c (by decide)) (fun _ => ?_)
        refine And.intro (fun _ => ?_) (fun c => absurd c (by decide))
        refine And.intro (fun c => absurd c (by decide)) (fun _ => ?_)
        refine And.intro (fun c => absurd c (by decide)) (fun _ => ?_)
        refine And.intro (fun c => absurd c (by decide)) (fun _ => ?_)
        refine And.intro (fun c => absurd c (by decide)) (fun _ => ?_)
        refine And.intro (fun c => absurd c (by decide)) (fun _ => ?_)
        refine And.intro (fun c => absurd c (by decide)) (fun _ => ?_)
        refine And.intro (fun c => absurd c (by decide)) (fun _ => ?_)
        refine And.intro (fun c => absurd c (by decide)) (fun _ => ?_)
        refine And.intro (fun c => absurd c (by decide)) (fun _ => ?_)
        refine And.intro (fun c => absurd c (by decide)) (fun _ => ?_)
        refine And.intro (fun c => absurd c (by decide)) (fun _ => ?_)
        refine And.intro (fun c => absurd c (by decide)) (fun _ => ?_)
        refine And.intro (fun c => absurd c (by decide)) (fun _ => ?_)
        refine And.intro (fun c => absurd c (by decide)) (fun _ => ?_)
        refine And.intro (fun c => absurd c (by decide)) (fun _ => ?_)
        refine And.intro (fun c => absurd c (by decide)) (fun _ => ?_)
        refine And.intro (fun c => absurd c (by decide)) (fun _ => ?_)
        refine And.intro (fun c => absurd c (by decide)) (fun _ => ?_)
        refine And.intro (fun c => absurd c (by decide)) (fun _ => ?_)
        refine And.intro (fun _ => ?_) (fun c => absurd c (by decide))
        refine And.intro (fun c => absurd c (by decide)) (fun _ => ?_)
        refine And.intro (fun c => absurd c (by decide)) (fun _ => ?_)
        refine And.intro (fun c => absurd c (by decide)) (fun _ => ?_)
        refine And.intro (fun c => absurd c (by decide)) (fun _ => ?_)
        refine And.intro (fun c => absurd c (by decide)) (fun _ => ?_)
        refine And.intro (fun c => absurd c (by decide)) (fun _ => ?_)
        refine And.intro (fun c => absurd c (by decide)) (fun _ => ?_)
        refine And.intro (fun c => absurd c (by decide)) (fun _ => ?_)
        refine And.intro (fun c => absurd c (by decide)) (fun _ => ?_)
        refine And.intro (fun c => absurd c (by decide)) (fun _ => ?_)
        refine And.intro (fun c => absurd c (by decide)) (fun _ => ?_)
        refine And.intro (fun c => absurd c (by decide)) (fun _ => ?_)
        refine And.intro (fun c => absurd c (by decide)) (fun _ => ?_)
        refine And.intro (fun c => absurd c (by decide)) (fun _ => ?_)
        refine And.intro (fun c => absurd c (by decide)) (fun _ => ?_)
        refine And.intro (fun c => absurd c (by decide)) (fun _ => ?_)
        refine And.intro (fun c => absurd c (by decide)) (fun _ => ?_)
        refine And.intro (fun c => absurd c (by decide)) (fun _ => ?_)
        refine And.intro (fun c => absurd c (by decide)) (fun _ => ?_)
        refine And.intro (fun c => absurd c (by decide)) (fun _ => ?_)
        refine And.intro (fun c => absurd c (by decide)) (fun _ => ?_)
        refine And.intro (fun c => absurd c (by decide)) (fun _ => ?_)
        refine And.intro (fun c => absurd c (by decide)) (fun _ => ?_)
        refine And.intro (fun c => absurd c (by decide)) (fun _ => ?_)
        refine And.intro (fun c => absurd c (by decide)) (fun _ => ?_)
        refine And.intro (fun _ => ?_) (fun c => absurd c (by decide))
        exact ⟨true, h, [], ⟨rfl, rfl, rfl, trivial⟩, ⟨⟨rfl, rfl, rfl, rfl, rfl, rfl, rfl, rfl, trivial⟩, ⟨rfl, rfl, rfl, trivial⟩, trivial⟩, rfl⟩
    · rintro v97 h
      unfold m_spec_l06Reader_non_j2 at h
      refine And.intro (fun c => ?_) (fun c => ?_)
      · replace h := cT h c
        refine .inl ?_
        refine .inl ?_
        refine .inl ?_
        replace h := Option.some.inj h
        subst h
        exact ⟨[.p ((gl06Deriv.mk 0 []).enc)], [.box 128 [.p (.lst ((gl06Reader.mk a32.b_ a32.d_ a32.at_ true).b_.terms_.map gTerm.enc)), .p (.lst ((gl06Reader.mk a32.b_ a32.d_ a32.at_ true).b_.nons_.map S)), .p (I (gl06Reader.mk a32.b_ a32.d_ a32.at_ true).b_.own_), .p (.lst ((gl06Reader.mk a32.b_ a32.d_ a32.at_ true).b_.prods_.map gProd.enc)), .p (.lst ((gl06Reader.mk a32.b_ a32.d_ a32.at_ true).d_.map I)), .p (I (gl06Reader.mk a32.b_ a32.d_ a32.at_ true).at_), .p (B (gl06Reader.mk a32.b_ a32.d_ a32.at_ true).bad_)]], ⟨[], ⟨rfl, trivial⟩, ⟨⟨rfl, rfl, rfl, rfl, rfl, rfl, rfl, rfl, trivial⟩, trivial⟩, rfl⟩, rfl, rfl, rfl⟩
      · replace h := cF h c
        refine .inl ?_
        refine ⟨[0, 1, 2, 3, 4, 5, 6, 7, 8, 9, 10, 11, 1012], [], by decide +kernel, ?_⟩
        obtain ⟨x296, hx296, h⟩ := bsm h
        refine And.intro (ix0 hx296) (Exists.intro _ (And.intro (gm (ixg hx296)) (And.intro rfl ?_)))
        refine .inl ?_
        refine .inl ?_
        refine ⟨[0, 1, 2, 3, 4, 5, 6, 7, 8, 9, 10], [], by decide +kernel, ?_⟩
        obtain ⟨x298, hx298, h⟩ := bsm h
        refine And.intro (ix0 hx298) (Exists.intro _ (And.intro (gm (ixg hx298)) (And.intro rfl ?_)))
        refine .inr ⟨gl06Reader × List gl06Deriv, fun x => ([(4, .ptr 1 0), (5, .ptr 2 0)], [.box 128 [.p (.lst (x.1.b_.terms_.map gTerm.enc)), .p (.lst (x.1.b_.nons_.map S)), .p (I x.1.b_.own_), .p (.lst (x.1.b_.prods_.map gProd.enc)), .p (.lst (x.1.d_.map I)), .p (I x.1.at_), .p (B x.1.bad_)], .box 65 [.p (I 0), .tl []], .box 65 [.p (I x296), .row 3 2 0 x.2.length], .row 65 2 (gl06Deriv_encM x.2)]), fun x => m_spec_l06Reader_non_j7 x296 x.1 x.2 = some r, ?_, ?_⟩
        · refine .inl ?_
          refine ⟨Int × gl06Reader × List gl06Deriv, fun x => ([(0, .ptr 0 0), (4, .ptr 1 0), (5, .ptr 2 0), (6, .p (.lst (x298.right_.map I))), (7, .p (I x.1))], [.box 128 [.p (.lst (x.2.1.b_.terms_.map gTerm.enc)), .p (.lst (x.2.1.b_.nons_.map S)), .p (I x.2.1.b_.own_), .p (.lst (x.2.1.b_.prods_.map gProd.enc)), .p (.lst (x.2.1.d_.map I)), .p (I x.2.1.at_), .p (B x.2.1.bad_)], .box 65 [.p (I 0), .tl []], .box 65 [.p (I x296), .row 3 2 0 x.2.2.length], .row 65 2 (gl06Deriv_encM x.2.2)]), fun x k => m_spec_l06Reader_non_l10 (m_spec_l06Reader_non n) n x296 x298 k x.1 x.2.1 x.2.2 = some r, ⟨(0, (gl06Reader.mk a32.b_ a32.d_ (wr .i64 (a32.at_ + 1)) a32.bad_), []), n, h, [(65, 2)], ⟨rfl, rfl, rfl, rfl, rfl, trivial⟩, ⟨⟨rfl, rfl, rfl, rfl, rfl, rfl, rfl, rfl, trivial⟩, ⟨rfl, rfl, rfl, trivial⟩, ⟨rfl, rfl, ⟨rfl, rfl⟩, trivial⟩, rfl, trivial⟩, rfl⟩, ?_⟩
          rintro ⟨v114, v115, v116⟩ (_ | k10) h
          · exact ns h
          unfold m_spec_l06Reader_non_l10 at h
          refine .inl ?_
          refine .inl ?_
          refine And.intro (fun c => ?_) (fun c => ?_)
          · replace h := cT h c
            refine And.intro (fun _ => ?_) (fun c => absurd c (by decide))
            refine And.intro (fun _ => ?_) (fun c => absurd c (by decide))
            refine And.intro (fun _ => ?_) (fun c => absurd c (by decide))
            refine And.intro (fun _ => ?_) (fun c => absurd c (by decide))
            refine And.intro (fun _ => ?_) (fun c => absurd c (by decide))
            refine And.intro (fun c => ?_) (fun c => ?_)
            · replace h := cT h c
              refine .inr ⟨gl06Reader × List gl06Deriv, fun x => ([(0, .ptr 0 0), (4, .ptr 1 0), (5, .ptr 2 0), (6, .p (.lst (x298.right_.map I))), (7, .p (I v114))], [.box 128 [.p (.lst (x.1.b_.terms_.map gTerm.enc)), .p (.lst (x.1.b_.nons_.map S)), .p (I x.1.b_.own_), .p (.lst (x.1.b_.prods_.map gProd.enc)), .p (.lst (x.1.d_.map I)), .p (I x.1.at_), .p (B x.1.bad_)], .box 65 [.p (I 0), .tl []], .box 65 [.p (I x296), .row 3 2 0 x.2.length], .row 65 2 (gl06Deriv_encM x.2)]), fun x => m_spec_l06Reader_non_j11 v114 (m_spec_l06Reader_non_l10 (m_spec_l06Reader_non n) n x296 x298 k10) x.1 x.2 = some r, ?_, ?_⟩
              · refine .inl ?_
                refine ⟨[0, 1, 2, 2003, 4, 5, 6, 2007, 1008, 9], [], by decide +kernel, ?_⟩
                obtain ⟨x322, hx322, h⟩ := bsm h
                refine And.intro (ix0 hx322) (Exists.intro _ (And.intro (gm (ixg hx322)) (And.intro rfl ?_)))
                obtain ⟨r262, hr262, h⟩ := bsm h
                refine callA (c_spec_l04Non n v115.b_ x322 _ hr262) ?_
                refine .inl ?_
                refine And.intro (fun c => ?_) (fun c => ?_)
                · replace h := cT h c
                  refine ⟨[0, 1, 2, 3, 4, 5, 1006, 7, 1008], [0], by decide +kernel, ?_⟩
                  obtain ⟨r264, hr264, h⟩ := bsm h
                  refine callW (args' := [.ptr 0 0, .p (I r262)]) (τ0 := [.box 128 [.p (.lst (v115.b_.terms_.map gTerm.enc)), .p (.lst (v115.b_.nons_.map S)), .p (I v115.b_.own_), .p (.lst (v115.b_.prods_.map gProd.enc)), .p (.lst (v115.d_.map I)), .p (I v115.at_), .p (B v115.bad_)]]) [0] [] (ih_spec_l06Reader_non v115 r262 _ hr264) (fun K hk => hk) rfl ⟨rfl, rfl, trivial⟩ ⟨⟨rfl, rfl, rfl, rfl, rfl, rfl, rfl, rfl, trivial⟩, trivial⟩ rfl ?_
                  rintro rs τ' hl' ⟨rfl, rfl⟩
                  refine And.intro (show fits _ _ from ⟨⟨rfl, rfl⟩, trivial⟩) ?_
                  obtain ⟨g24, h⟩ := gpT h
                  refine Exists.intro ([r264.1.enc]) (And.intro (rowN rfl rfl) ?_)
                  refine Exists.intro (gl06Deriv_encM v116) (And.intro (rowX (rowN rfl (show v116.length = (gl06Deriv_encM v116).length by simp)) (show fits _ _ from ⟨⟨rfl, rfl⟩, trivial⟩) (appfitJ (by first | simpa using g24 | (simp at g24 ⊢; omega)) rfl)) ?_)
                  exact ⟨(r264.2, (v116 ++ [r264.1])), h, [], ⟨rfl, rfl, rfl, rfl, rfl, trivial⟩, ⟨⟨rfl, rfl, rfl, rfl, rfl, rfl, rfl, rfl, trivial⟩, ⟨rfl, rfl, rfl, trivial⟩, ⟨rfl, rfl, (congrArg (AV.row 3 2 0) (show (v116 ++ [r264.1]).length = (v116.length + ([r264.1.enc] : List PV).length) by simp)), trivial⟩, (congrArg (Bk.row 65 2) (show gl06Deriv_encM (v116 ++ [r264.1]) = (gl06Deriv_encM v116) ++ [r264.1.enc] by simp)), trivial⟩, rfl⟩
                · replace h := cF h c
                  exact ⟨(v115, v116), h, [], ⟨rfl, rfl, rfl, rfl, rfl, trivial⟩, ⟨⟨rfl, rfl, rfl, rfl, rfl, rfl, rfl, rfl, trivial⟩, ⟨rfl, rfl, rfl, trivial⟩, ⟨rfl, rfl, rfl, trivial⟩, rfl, trivial⟩, rfl⟩
              · rintro ⟨v122, v123⟩ h
                unfold m_spec_l06Reader_non_j11 at h
                exact ⟨((wr .i64 (v114 + 1)), v122, v123), k10, h, Nat.lt_succ_self _, [], ⟨rfl, rfl, rfl, rfl, rfl, trivial⟩, ⟨⟨rfl, rfl, rfl, rfl, rfl, rfl, rfl, rfl, trivial⟩, ⟨rfl, rfl, rfl, trivial⟩, ⟨rfl, rfl, rfl, trivial⟩, rfl, trivial⟩, rfl⟩
            · replace h := cF h c
              exact ⟨(v115, v116), h, [], ⟨rfl, rfl, trivial⟩, ⟨⟨rfl, rfl, rfl, rfl, rfl, rfl, rfl, rfl, trivial⟩, ⟨rfl, rfl, rfl, trivial⟩, ⟨rfl, rfl, rfl, trivial⟩, rfl, trivial⟩, rfl⟩
          · replace h := cF h c
            refine And.intro (fun c => absurd c (by decide)) (fun _ => ?_)
            refine And.intro (fun c => absurd c (by decide)) (fun _ => ?_)
            refine And.intro (fun c => absurd c (by decide)) (fun _ => ?_)
            refine And.intro (fun c => absurd c (by decide)) (fun _ => ?_)
            refine And.intro (fun c => absurd c (by decide)) (fun _ => ?_)
            refine And.intro (fun c => absurd c (by decide)) (fun _ => ?_)
            exact ⟨(v115, v116), h, [], ⟨rfl, rfl, trivial⟩, ⟨⟨rfl, rfl, rfl, rfl, rfl, rfl, rfl, rfl, trivial⟩, ⟨rfl, rfl, rfl, trivial⟩, ⟨rfl, rfl, rfl, trivial⟩, rfl, trivial⟩, rfl⟩
        · rintro ⟨v110, v111⟩ h
          unfold m_spec_l06Reader_non_j7 at h
          refine .inl ?_
          refine .inl (Exists.intro _ (And.intro (rowN rfl (show v111.length = (gl06Deriv_encM v111).length by simp)) ?_))
          replace h := Option.some.inj h
          subst h
          exact ⟨[.p ((gl06Deriv.mk x296 v111).enc)], [.box 128 [.p (.lst (v110.b_.terms_.map gTerm.enc)), .p (.lst (v110.b_.nons_.map S)), .p (I v110.b_.own_), .p (.lst (v110.b_.prods_.map gProd.enc)), .p (.lst (v110.d_.map I)), .p (I v110.at_), .p (B v110.bad_)]], ⟨[], ⟨rfl, trivial⟩, ⟨⟨rfl, rfl, rfl, rfl, rfl, rfl, rfl, rfl, trivial⟩, trivial⟩, rfl⟩, rfl, rfl, rfl⟩
def m_spec_l06Read (n : Nat) (a34 : gBnf) (a35 : Int) (a36 : List Int) : Option (gl06Deriv × Bool) :=
  (m_spec_l06Reader_non n (gl06Reader.mk a34 a36 0 false) a35).bind fun r269 =>
  bif (!r269.2.bad_) then (
    some (r269.1, (r269.2.at_ == ((a36.map I).length : Int))))
  else (
    some (r269.1, false))
theorem c_spec_l06Read (n : Nat) (a34 : gBnf) (a35 : Int) (a36 : List Int) (r : gl06Deriv × Bool) (h : m_spec_l06Read n a34 a35 a36 = some r) : FnP Try.prog 33 [a34.enc, I a35, .lst (a36.map I)] [r.1.enc, B r.2] := by
  unfold m_spec_l06Read at h
  refine fn_introJ Try.func33 rfl rfl rfl ?_
  refine .inl ?_
  refine .inl ?_
  refine .inl ?_
  obtain ⟨r269, hr269, h⟩ := bsm h
  refine callW (args' := [.ptr 0 0, .p (I a35)]) (τ0 := [.box 128 [.p (.lst ((gl06Reader.mk a34 a36 0 false).b_.terms_.map gTerm.enc)), .p (.lst ((gl06Reader.mk a34 a36 0 false).b_.nons_.map S)), .p (I (gl06Reader.mk a34 a36 0 false).b_.own_), .p (.lst ((gl06Reader.mk a34 a36 0 false).b_.prods_.map gProd.enc)), .p (.lst ((gl06Reader.mk a34 a36 0 false).d_.map I)), .p (I (gl06Reader.mk a34 a36 0 false).at_), .p (B (gl06Reader.mk a34 a36 0 false).bad_)]]) [2] [] (c_spec_l06Reader_non n (gl06Reader.mk a34 a36 0 false) a35 _ hr269) (fun K hk => hk) rfl ⟨rfl, rfl, trivial⟩ ⟨⟨rfl, rfl, rfl, rfl, rfl, rfl, rfl, rfl, trivial⟩, trivial⟩ rfl ?_
  rintro rs τ' hl' ⟨rfl, rfl⟩
  refine .inl ?_
  refine ⟨[2000, 1, 2, 3, 2004, 5, 6, 7, 8, 9, 10, 11, 12, 13, 14, 15, 16], [1], by decide +kernel, ?_⟩
  refine And.intro (fun c => ?_) (fun c => ?_)
  · replace h := cT h c
    refine And.intro (fun _ => ?_) (fun c => absurd c (by decide))
    refine And.intro (fun _ => ?_) (fun c => absurd c (by decide))
    refine And.intro (fun _ => ?_) (fun c => absurd c (by decide))
    refine And.intro (fun _ => ?_) (fun c => absurd c (by decide))
    refine And.intro (fun _ => ?_) (fun c => absurd c (by decide))
    refine And.intro (fun _ => ?_) (fun c => absurd c (by decide))
    refine And.intro (fun _ => ?_) (fun c => absurd c (by decide))
    replace h := Option.some.inj h
    subst h
    exact ⟨[.p (r269.1.enc), .p (B (r269.2.at_ == ((a36.map I).length : Int)))], [], ⟨[], ⟨rfl, rfl, trivial⟩, trivial, rfl⟩, rfl, rfl, rfl⟩
  · replace h := cF h c
    refine And.intro (fun c => absurd c (by decide)) (fun _ => ?_)
    refine And.intro (fun c => absurd c (by decide)) (fun _ => ?_)
    refine And.intro (fun c => absurd c (by decide)) (fun _ => ?_)
    refine And.intro (fun c => absurd c (by decide)) (fun _ => ?_)
    refine And.intro (fun c => absurd c (by decide)) (fun _ => ?_)
    refine And.intro (fun c => absurd c (by decide)) (fun _ => ?_)
    refine And.intro (fun c => absurd c (by decide)) (fun _ => ?_)
    replace h := Option.some.inj h
    subst h
    exact ⟨[.p (r269.1.enc), .p (B false)], [], ⟨[], ⟨rfl, rfl, trivial⟩, trivial, rfl⟩, rfl, rfl, rfl⟩
def m_spec_l06Good_j23 : Option Bool :=
  some true
def m_spec_l06Good_j42 (v149 : Int) (rec38 : Int → Int → Option Bool) (v159 : Int) : Option Bool :=
  rec38 v159 (wr .i64 (v149 + 1))
def m_spec_l06Good_j45 (self_spec_l06Good : gBnf → gl06Deriv → Option Bool) (a37 : gBnf) (a38 : gl06Deriv) (v148 : Int) (v149 : Int) (rec38 : Int → Int → Option Bool) : Option Bool :=
  (ix a38.kids_ v148).bind fun x471 =>
  (self_spec_l06Good a37 x471).bind fun r317 =>
  bif (!r317) then (
    some false)
  else (
    m_spec_l06Good_j42 v149 rec38 (wr .i64 (v148 + 1)))
def m_spec_l06Good_j44 (self_spec_l06Good : gBnf → gl06Deriv → Option Bool) (a37 : gBnf) (a38 : gl06Deriv) (x329 : gProd) (v148 : Int) (v149 : Int) (rec38 : Int → Int → Option Bool) (x467 : gProd) (v160 : Bool) (v161 : Int) : Option Bool :=
  bif v160 then (
    (ix x329.right_ v149).bind fun x473 =>
    bif (x473 == x329.left_) then (
      bif (decide (x329.level_ > 0)) then (
        bif (decide (x467.level_ > 0)) then (
          bif (decide (x467.level_ < x329.level_)) then (
            some false)
          else (
            bif (x467.level_ == x329.level_) then (
              bif (x329.assoc_ != v161) then (
                some false)
              else (
                m_spec_l06Good_j45 self_spec_l06Good a37 a38 v148 v149 rec38))
            else (
              m_spec_l06Good_j45 self_spec_l06Good a37 a38 v148 v149 rec38)))
        else (
          m_spec_l06Good_j45 self_spec_l06Good a37 a38 v148 v149 rec38))
      else (
        m_spec_l06Good_j45 self_spec_l06Good a37 a38 v148 v149 rec38))
    else (
      m_spec_l06Good_j45 self_spec_l06Good a37 a38 v148 v149 rec38))
  else (
    m_spec_l06Good_j45 self_spec_l06Good a37 a38 v148 v149 rec38)
def m_spec_l06Good_j43 (self_spec_l06Good : gBnf → gl06Deriv → Option Bool) (a37 : gBnf) (a38 : gl06Deriv) (x329 : gProd) (v148 : Int) (v149 : Int) (rec38 : Int → Int → Option Bool) (x467 : gProd) (v160 : Bool) : Option Bool :=
  bif (decide (v149 > 0)) then (
    m_spec_l06Good_j44 self_spec_l06Good a37 a38 x329 v148 v149 rec38 x467 v160 2)
  else (
    m_spec_l06Good_j44 self_spec_l06Good a37 a38 x329 v148 v149 rec38 x467 v160 1)
def m_spec_l06Good_l38 (self_spec_l06Good : gBnf → gl06Deriv → Option Bool) (n : Nat) (a37 : gBnf) (a38 : gl06Deriv) (x329 : gProd) : Nat → Int → Int → Option Bool
  | 0, _, _ => none
  | k38 + 1, v148, v149 =>
    bif (decide (v149 < ((x329.right_.map I).length : Int))) then (
      (ix x329.right_ v149).bind fun x463 =>
      (m_spec_l04Non n a37 x463).bind fun r315 =>
      bif (decide (r315 < 0)) then (
        m_spec_l06Good_j42 v149 (m_spec_l06Good_l38 self_spec_l06Good n a37 a38 x329 k38) v148)
      else (
        (ix a38.kids_ v148).bind fun x466 =>
        (ix a37.prods_ x466.prod_).bind fun x467 =>
        bif (v149 == 0) then (
          m_spec_l06Good_j43 self_spec_l06Good a37 a38 x329 v148 v149 (m_spec_l06Good_l38 self_spec_l06Good n a37 a38 x329 k38) x467 true)
        else (
          m_spec_l06Good_j43 self_spec_l06Good a37 a38 x329 v148 v149 (m_spec_l06Good_l38 self_spec_l06Good n a37 a38 x329 k38) x467 (v149 == (wr .i64 (((x329.right_.map I).length : Int) - 1))))))
    else (
      m_spec_l06Good_j23)
def m_spec_l06Good : Nat → gBnf → gl06Deriv → Option Bool
  | 0, _, _ => none
  | n + 1, a37, a38 =>
    (ix a37.prods_ a38.prod_).bind fun x329 =>
    m_spec_l06Good_l38 (m_spec_l06Good n) n a37 a38 x329 n 0 0
theorem c_spec_l06Good : ∀ (n : Nat) (a37 : gBnf) (a38 : gl06Deriv) (r : Bool) (h : m_spec_l06Good n a37 a38 = some r), FnP Try.prog 34 [a37.enc, a38.enc] [B r]
  | 0, _, _, r, h => ns h
  | n + 1, a37, a38, r, h => by
    have ih_spec_l06Good := c_spec_l06Good n
    unfold m_spec_l06Good at h
    refine fn_introJ Try.func34 rfl rfl rfl ?_
    refine .inl ?_
    refine .inl ?_
    obtain ⟨x329, hx329, h⟩ := bsm h
    refine And.intro (ix0 hx329) (Exists.intro _ (And.intro (gm (ixg hx329)) (And.intro rfl ?_)))
    refine .inl ?_
    refine .inr ⟨Unit, fun x => ([], []), fun x => m_spec_l06Good_j23 = some r, ?_, ?_⟩
    · refine .inl ?_
      refine ⟨Int × Int, fun x => ([(2, .ptr 0 0), (3, .ptr 1 0), (5, .ptr 2 0), (6, .p (I x.1)), (7, .p (I x.2))], [.box 34 [.p (.lst (a37.terms_.map gTerm.enc)), .p (.lst (a37.nons_.map S)), .p (I a37.own_), .p (.lst (a37.prods_.map gProd.enc))], .box 65 [.p (I a38.prod_), .p (.lst (gl06Deriv_encM a38.kids_))], .box 112 [.p (I x329.left_), .p (.lst (x329.right_.map I)), .p (S x329.label_), .p (I x329.level_), .p (I x329.assoc_)]]), fun x k => m_spec_l06Good_l38 (m_spec_l06Good n) n a37 a38 x329 k x.1 x.2 = some r, ⟨(0, 0), n, h, [], ⟨rfl, rfl, rfl, rfl, rfl, trivial⟩, ⟨⟨rfl, rfl, rfl, rfl, rfl, trivial⟩, ⟨rfl, rfl, rfl, trivial⟩, ⟨rfl, rfl, rfl, rfl, rfl, rfl, trivial⟩, trivial⟩, rfl⟩, ?_⟩
      rintro ⟨v148, v149⟩ (_ | k38) h
      · exact ns h
      unfold m_spec_l06Good_l38 at h
      refine .inl ?_
      refine .inl ?_
      refine And.intro (fun c => ?_) (fun c => ?_)
      · replace h := cT h c
        refine .inr ⟨Int, fun x => ([(2, .ptr 0 0), (3, .ptr 1 0), (5, .ptr 2 0), (6, .p (I x)), (7, .p (I v149))], [.box 34 [.p (.lst (a37.terms_.map gTerm.enc)), .p (.lst (a37.nons_.map S)), .p (I a37.own_), .p (.lst (a37.prods_.map gProd.enc))], .box 65 [.p (I a38.prod_), .p (.lst (gl06Deriv_encM a38.kids_))], .box 112 [.p (I x329.left_), .p (.lst (x329.right_.map I)), .p (S x329.label_), .p (I x329.level_), .p (I x329.assoc_)]]), fun x => m_spec_l06Good_j42 v149 (m_spec_l06Good_l38 (m_spec_l06Good n) n a37 a38 x329 k38) x = some r, ?_, ?_⟩
        · refine .inl ?_
          refine .inl ?_
          refine ⟨[2000, 1, 2002, 3, 4, 2005, 1006, 7], [], by decide +kernel, ?_⟩
          obtain ⟨x463, hx463, h⟩ := bsm h
          refine And.intro (ix0 hx463) (Exists.intro _ (And.intro (gm (ixg hx463)) (And.intro rfl ?_)))
          obtain ⟨r315, hr315, h⟩ := bsm h
          refine callA (c_spec_l04Non n a37 x463 _ hr315) ?_
          refine And.intro (fun c => ?_) (fun c => ?_)
          · replace h := cT h c
            exact ⟨v148, h, [], ⟨rfl, rfl, rfl, rfl, rfl, trivial⟩, ⟨⟨rfl, rfl, rfl, rfl, rfl, trivial⟩, ⟨rfl, rfl, rfl, trivial⟩, ⟨rfl, rfl, rfl, rfl, rfl, rfl, trivial⟩, trivial⟩, rfl⟩
          · replace h := cF h c
            refine .inl ?_
            refine ⟨[0, 1, 2, 3, 4, 5, 6, 7, 8, 9, 10, 1011], [], by decide +kernel, ?_⟩
            obtain ⟨x466, hx466, h⟩ := bsm h
            refine And.intro (ix0 hx466) (Exists.intro _ (And.intro (gl06Deriv_encM_get (ixg hx466)) (And.intro rfl ?_)))
            obtain ⟨x467, hx467, h⟩ := bsm h
            refine And.intro (ix0 hx467) (Exists.intro _ (And.intro (gm (ixg hx467)) (And.intro rfl ?_)))
            refine .inr ⟨Bool, fun x => ([(2, .ptr 0 0), (3, .ptr 1 0), (5, .ptr 2 0), (6, .p (I v148)), (7, .p (I v149)), (8, .ptr 3 0), (9, .p (B x))], [.box 34 [.p (.lst (a37.terms_.map gTerm.enc)), .p (.lst (a37.nons_.map S)), .p (I a37.own_), .p (.lst (a37.prods_.map gProd.enc))], .box 65 [.p (I a38.prod_), .p (.lst (gl06Deriv_encM a38.kids_))], .box 112 [.p (I x329.left_), .p (.lst (x329.right_.map I)), .p (S x329.label_), .p (I x329.level_), .p (I x329.assoc_)], .box 112 [.p (I x467.left_), .p (.lst (x467.right_.map I)), .p (S x467.label_), .p (I x467.level_), .p (I x467.assoc_)]]), fun x => m_spec_l06Good_j43 (m_spec_l06Good n) a37 a38 x329 v148 v149 (m_spec_l06Good_l38 (m_spec_l06Good n) n a37 a38 x329 k38) x467 x = some r, ?_, ?_⟩
            · refine And.intro (fun c => ?_) (fun c => ?_)
              · replace h := cF h c
                refine And.intro (fun _ => ?_) (fun c => absurd c (by decide))
                refine And.intro (fun _ => ?_) (fun c => absurd c (by decide))
                refine And.intro (fun _ => ?_) (fun c => absurd c (by decide))
                refine And.intro (fun _ => ?_) (fun c => absurd c (by decide))
                refine And.intro (fun _ => ?_) (fun c => absurd c (by decide))
                refine And.intro (fun c => absurd c (by decide)) (fun _ => ?_)
                exact ⟨(v149 == (wr .i64 (((x329.right_.map I).length : Int) - 1))), h, [], ⟨rfl, rfl, rfl, rfl, rfl, rfl, rfl, trivial⟩, ⟨⟨rfl, rfl, rfl, rfl, rfl, trivial⟩, ⟨rfl, rfl, rfl, trivial⟩, ⟨rfl, rfl, rfl, rfl, rfl, rfl, trivial⟩, ⟨rfl, rfl, rfl, rfl, rfl, rfl, trivial⟩, trivial⟩, rfl⟩
              · replace h := cT h c
                refine And.intro (fun c => absurd c (by decide)) (fun _ => ?_)
                refine And.intro (fun c => absurd c (by decide)) (fun _ => ?_)
                refine And.intro (fun c => absurd c (by decide)) (fun _ => ?_)
                refine And.intro (fun c => absurd c (by decide)) (fun _ => ?_)
                refine And.intro (fun c => absurd c (by decide)) (fun _ => ?_)
                refine And.intro (fun _ => ?_) (fun c => absurd c (by decide))
                exact ⟨true, h, [], ⟨rfl, rfl, rfl, rfl, rfl, rfl, rfl, trivial⟩, ⟨⟨rfl, rfl, rfl, rfl, rfl, trivial⟩, ⟨rfl, rfl, rfl, trivial⟩, ⟨rfl, rfl, rfl, rfl, rfl, rfl, trivial⟩, ⟨rfl, rfl, rfl, rfl, rfl, rfl, trivial⟩, trivial⟩, rfl⟩
            · rintro v160 h
              unfold m_spec_l06Good_j43 at h
              refine .inl ?_
              refine .inr ⟨Int, fun x => ([(2, .ptr 0 0), (3, .ptr 1 0), (5, .ptr 2 0), (6, .p (I v148)), (7, .p (I v149)), (8, .ptr 3 0), (9, .p (B v160)), (10, .p (I x))], [.box 34 [.p (.lst (a37.terms_.map gTerm.enc)), .p (.lst (a37.nons_.map S)), .p (I a37.own_), .p (.lst (a37.prods_.map gProd.enc))], .box 65 [.p (I a38.prod_), .p (.lst (gl06Deriv_encM a38.kids_))], .box 112 [.p (I x329.left_), .p (.lst (x329.right_.map I)), .p (S x329.label_), .p (I x329.level_), .p (I x329.assoc_)], .box 112 [.p (I x467.left_), .p (.lst (x467.right_.map I)), .p (S x467.label_), .p (I x467.level_), .p (I x467.assoc_)]]), fun x => m_spec_l06Good_j44 (m_spec_l06Good n) a37 a38 x329 v148 v149 (m_spec_l06Good_l38 (m_spec_l06Good n) n a37 a38 x329 k38) x467 v160 x = some r, ?_, ?_⟩
              · refine .inl ?_
                refine And.intro (fun c => ?_) (fun c => ?_)
                · replace h := cT h c
                  exact ⟨2, h, [], ⟨rfl, rfl, rfl, rfl, rfl, rfl, rfl, rfl, trivial⟩, ⟨⟨rfl, rfl, rfl, rfl, rfl, trivial⟩, ⟨rfl, rfl, rfl, trivial⟩, ⟨rfl, rfl, rfl, rfl, rfl, rfl, trivial⟩, ⟨rfl, rfl, rfl, rfl, rfl, rfl, trivial⟩, trivial⟩, rfl⟩
                · replace h := cF h c
                  exact ⟨1, h, [], ⟨rfl, rfl, rfl, rfl, rfl, rfl, rfl, rfl, trivial⟩, ⟨⟨rfl, rfl, rfl, rfl, rfl, trivial⟩, ⟨rfl, rfl, rfl, trivial⟩, ⟨rfl, rfl, rfl, rfl, rfl, rfl, trivial⟩, ⟨rfl, rfl, rfl, rfl, rfl, rfl, trivial⟩, trivial⟩, rfl⟩
              · rintro v161 h
                unfold m_spec_l06Good_j44 at h
                refine .inr ⟨Unit, fun x => ([(2, .ptr 0 0), (3, .ptr 1 0), (5, .ptr 2 0), (6, .p (I v148)), (7, .p (I v149))], [.box 34 [.p (.lst (a37.terms_.map gTerm.enc)), .p (.lst (a37.nons_.map S)), .p (I a37.own_), .p (.lst (a37.prods_.map gProd.enc))], .box 65 [.p (I a38.prod_), .p (.lst (gl06Deriv_encM a38.kids_))], .box 112 [.p (I x329.left_), .p (.lst (x329.right_.map I)), .p (S x329.label_), .p (I x329.level_), .p (I x329.assoc_)]]), fun x => m_spec_l06Good_j45 (m_spec_l06Good n) a37 a38 v148 v149 (m_spec_l06Good_l38 (m_spec_l06Good n) n a37 a38 x329 k38) = some r, ?_, ?_⟩
                · refine .inl ?_
                  refine ⟨[0, 1, 2, 3, 4, 5, 6, 7, 8, 9, 10, 11, 12, 13, 14, 15, 16, 17, 18, 19, 20, 21, 22, 23, 24, 25, 26, 27, 28, 29, 30, 31, 32, 33, 34, 35, 36, 37, 38, 39, 40], [], by decide +kernel, ?_⟩
                  refine And.intro (fun c => ?_) (fun c => ?_)
                  · replace h := cT h c
                    refine And.intro (fun _ => ?_) (fun c => absurd c (by decide))
                    refine And.intro (fun _ => ?_) (fun c => absurd c (by decide))
                    refine And.intro (fun _ => ?_) (fun c => absurd c (by decide))
                    obtain ⟨x473, hx473, h⟩ := bsm h
                    refine And.intro (ix0 hx473) (Exists.intro _ (And.intro (gm (ixg hx473)) (And.intro rfl ?_)))
                    refine And.intro (fun _ => ?_) (fun c => absurd c (by decide))
                    refine And.intro (fun _ => ?_) (fun c => absurd c (by decide))
                    refine And.intro (fun _ => ?_) (fun c => absurd c (by decide))
                    refine And.intro (fun _ => ?_) (fun c => absurd c (by decide))
                    refine And.intro (fun _ => ?_) (fun c => absurd c (by decide))
                    refine And.intro (fun c => ?_) (fun c => ?_)
                    · replace h := cT h c
                      refine And.intro (fun _ => ?_) (fun c => absurd c (by decide))
                      refine And.intro (fun _ => ?_) (fun c => absurd c (by decide))
                      refine And.intro (fun _ => ?_) (fun c => absurd c (by decide))
                      refine And.intro (fun c => ?_) (fun c => ?_)
                      · replace h := cT h c
                        refine And.intro (fun _ => ?_) (fun c => absurd c (by decide))
                        refine And.intro (fun _ => ?_) (fun c => absurd c (by decide))
                        refine And.intro (fun _ => ?_) (fun c => absurd c (by decide))
                        refine And.intro (fun c => ?_) (fun c => ?_)
                        · replace h := cT h c
                          refine And.intro (fun _ => ?_) (fun c => absurd c (by decide))
                          refine And.intro (fun _ => ?_) (fun c => absurd c (by decide))
                          refine And.intro (fun _ => ?_) (fun c => absurd c (by decide))
                          refine And.intro (fun _ => ?_) (fun c => absurd c (by decide))
                          refine And.intro (fun _ => ?_) (fun c => absurd c (by decide))
                          refine And.intro (fun c => ?_) (fun c => ?_)
                          · replace h := cF h c
                            refine And.intro (fun _ => ?_) (fun c => absurd c (by decide))
                            refine And.intro (fun _ => ?_) (fun c => absurd c (by decide))
                            refine And.intro (fun _ => ?_) (fun c => absurd c (by decide))
                            refine And.intro (fun _ => ?_) (fun c => absurd c (by decide))
                            refine And.intro (fun _ => ?_) (fun c => absurd c (by decide))
                            refine And.intro (fun c => ?_) (fun c => ?_)
                            · replace h := cT h c
                              refine And.intro (fun _ => ?_) (fun c => absurd c (by decide))
                              refine And.intro (fun _ => ?_) (fun c => absurd c (by decide))
                              refine And.intro (fun _ => ?_) (fun c => absurd c (by decide))
                              refine And.intro (fun _ => ?_) (fun c => absurd c (by decide))
                              refine And.intro (fun _ => ?_) (fun c => absurd c (by decide))
                              refine And.intro (fun _ => ?_) (fun c => absurd c (by decide))
                              refine And.intro (fun c => absurd c (by decide)) (fun _ => ?_)
                              refine And.intro (fun _ => ?_) (fun c => absurd c (by decide))
                              refine And.intro (fun c => ?_) (fun c => ?_)
                              · replace h := cT h c
                                refine .inl ?_
                                replace h := Option.some.inj h
                                subst h
                                exact ⟨[.p (B false)], [], ⟨[], ⟨rfl, trivial⟩, trivial, rfl⟩, rfl, rfl, rfl⟩
                              · replace h := cF h c
                                exact ⟨(), h, [], ⟨rfl, rfl, rfl, rfl, rfl, trivial⟩, ⟨⟨rfl, rfl, rfl, rfl, rfl, trivial⟩, ⟨rfl, rfl, rfl, trivial⟩, ⟨rfl, rfl, rfl, rfl, rfl, rfl, trivial⟩, trivial⟩, rfl⟩
                            · replace h := cF h c
                              refine And.intro (fun c => absurd c (by decide)) (fun _ => ?_)
                              refine And.intro (fun c => absurd c (by decide)) (fun _ => ?_)
                              refine And.intro (fun c => absurd c (by decide)) (fun _ => ?_)
                              refine And.intro (fun _ => ?_) (fun c => absurd c (by decide))
                              refine And.intro (fun c => absurd c (by decide)) (fun _ => ?_)
                              refine And.intro (fun _ => ?_) (fun c => absurd c (by decide))
                              refine And.intro (fun c => absurd c (by decide)) (fun _ => ?_)
                              refine And.intro (fun _ => ?_) (fun c => absurd c (by decide))
                              refine And.intro (fun c => absurd c (by decide)) (fun _ => ?_)
                              exact ⟨(), h, [], ⟨rfl, rfl, rfl, rfl, rfl, trivial⟩, ⟨⟨rfl, rfl, rfl, rfl, rfl, trivial⟩, ⟨rfl, rfl, rfl, trivial⟩, ⟨rfl, rfl, rfl, rfl, rfl, rfl, trivial⟩, trivial⟩, rfl⟩
                          · replace h := cT h c
                            refine And.intro (fun c => absurd c (by decide)) (fun _ => ?_)
                            refine And.intro (fun c => absurd c (by decide)) (fun _ => ?_)
                            refine And.intro (fun c => absurd c (by decide)) (fun _ => ?_)
                            refine And.intro (fun c => absurd c (by decide)) (fun _ => ?_)
                            refine And.intro (fun c => absurd c (by decide)) (fun _ => ?_)
                            refine And.intro (fun c => absurd c (by decide)) (fun _ => ?_)
                            refine And.intro (fun _ => ?_) (fun c => absurd c (by decide))
                            refine And.intro (fun _ => ?_) (fun c => absurd c (by decide))
                            refine And.intro (fun _ => ?_) (fun c => absurd c (by decide))
                            refine And.intro (fun _ => ?_) (fun c => absurd c (by decide))
                            refine .inl ?_
                            replace h := Option.some.inj h
                            subst h
                            exact ⟨[.p (B false)], [], ⟨[], ⟨rfl, trivial⟩, trivial, rfl⟩, rfl, rfl, rfl⟩
                        · replace h := cF h c
                          refine And.intro (fun c => absurd c (by decide)) (fun _ => ?_)
                          refine And.intro (fun c => absurd c (by decide)) (fun _ => ?_)
                          refine And.intro (fun c => absurd c (by decide)) (fun _ => ?_)
                          refine And.intro (fun c => absurd c (by decide)) (fun _ => ?_)
                          refine And.intro (fun c => absurd c (by decide)) (fun _ => ?_)
                          refine And.intro (fun c => absurd c (by decide)) (fun _ => ?_)
                          refine And.intro (fun c => absurd c (by decide)) (fun _ => ?_)
                          refine And.intro (fun c => absurd c (by decide)) (fun _ => ?_)
                          exact ⟨(), h, [], ⟨rfl, rfl, rfl, rfl, rfl, trivial⟩, ⟨⟨rfl, rfl, rfl, rfl, rfl, trivial⟩, ⟨rfl, rfl, rfl, trivial⟩, ⟨rfl, rfl, rfl, rfl, rfl, rfl, trivial⟩, trivial⟩, rfl⟩
                      · replace h := cF h c
                        refine And.intro (fun c => absurd c (by decide)) (fun _ => ?_)
                        refine And.intro (fun c => absurd c (by decide)) (fun _ => ?_)
                        refine And.intro (fun c => absurd c (by decide)) (fun _ => ?_)
                        refine And.intro (fun c => absurd c (by decide)) (fun _ => ?_)
                        refine And.intro (fun c => absurd c (by decide)) (fun _ => ?_)
                        refine And.intro (fun c => absurd c (by decide)) (fun _ => ?_)
                        refine And.intro (fun c => absurd c (by decide)) (fun _ => ?_)
                        refine And.intro (fun c => absurd c (by decide)) (fun _ => ?_)
                        refine And.intro (fun c => absurd c (by decide)) (fun _ => ?_)
                        refine And.intro (fun c => absurd c (by decide)) (fun _ => ?_)
                        refine And.intro (fun c => absurd c (by decide)) (fun _ => ?_)
                        refine And.intro (fun c => absurd c (by decide)) (fun _ => ?_)
                        exact ⟨(), h, [], ⟨rfl, rfl, rfl, rfl, rfl, trivial⟩, ⟨⟨rfl, rfl, rfl, rfl, rfl, trivial⟩, ⟨rfl, rfl, rfl, trivial⟩, ⟨rfl, rfl, rfl, rfl, rfl, rfl, trivial⟩, trivial⟩, rfl⟩
                    · replace h := cF h c
                      refine And.intro (fun c => absurd c (by decide)) (fun _ => ?_)
                      refine And.intro (fun c => absurd c (by decide)) (fun _ => ?_)
                      refine And.intro (fun c => absurd c (by decide)) (fun _ => ?_)
                      refine And.intro (fun c => absurd c (by decide)) (fun _ => ?_)
                      refine And.intro (fun c => absurd c (by decide)) (fun _ => ?_)
                      refine And.intro (fun c => absurd c (by decide)) (fun _ => ?_)
                      refine And.intro (fun c => absurd c (by decide)) (fun _ => ?_)
                      refine And.intro (fun c => absurd c (by decide)) (fun _ => ?_)
                      refine And.intro (fun c => absurd c (by decide)) (fun _ => ?_)
                      refine And.intro (fun c => absurd c (by decide)) (fun _ => ?_)
                      refine And.intro (fun c => absurd c (by decide)) (fun _ => ?_)
                      refine And.intro (fun c => absurd c (by decide)) (fun _ => ?_)
                      refine And.intro (fun c => absurd c (by decide)) (fun _ => ?_)
                      refine And.intro (fun c => absurd c (by decide)) (fun _ => ?_)
                      refine And.intro (fun c => absurd c (by decide)) (fun _ => ?_)
                      refine And.intro (fun c => absurd c (by decide)) (fun _ => ?_)
                      exact ⟨(), h, [], ⟨rfl, rfl, rfl, rfl, rfl, trivial⟩, ⟨⟨rfl, rfl, rfl, rfl, rfl, trivial⟩, ⟨rfl, rfl, rfl, trivial⟩, ⟨rfl, rfl, rfl, rfl, rfl, rfl, trivial⟩, trivial⟩, rfl⟩
                  · replace h := cF h c
                    refine And.intro (fun c => absurd c (by decide)) (fun _ => ?_)
                    refine And.intro (fun c => absurd c (by decide)) (fun _ => ?_)
                    refine And.intro (fun c => absurd c (by decide)) (fun _ => ?_)
                    refine And.intro (fun c => absurd c (by decide)) (fun _ => ?_)
                    refine And.intro (fun c => absurd c (by decide)) (fun _ => ?_)
                    refine And.intro (fun c => absurd c (by decide)) (fun _ => ?_)
                    refine And.intro (fun c => absurd c (by decide)) (fun _ => ?_)
                    refine And.intro (fun c => absurd c (by decide)) (fun _ => ?_)
                    refine And.intro (fun c => absurd c (by decide)) (fun _ => ?_)
                    refine And.intro (fun c => absurd c (by decide)) (fun _ => ?_)
                    refine And.intro (fun c => absurd c (by decide)) (fun _ => ?_)
                    refine And.intro (fun c => absurd c (by decide)) (fun _ => ?_)
                    refine And.intro (fun c => absurd c (by decide)) (fun _ => ?_)
                    refine And.intro (fun c => absurd c (by decide)) (fun _ => ?_)
                    refine And.intro (fun c => absurd c (by decide)) (fun _ => ?_)
                    refine And.intro (fun c => absurd c (by decide)) (fun _ => ?_)
                    refine And.intro (fun c => absurd c (by decide)) (fun _ => ?_)
                    refine And.intro (fun c => absurd c (by decide)) (fun _ => ?_)
                    refine And.intro (fun c => absurd c (by decide)) (fun _ => ?_)
                    refine And.intro (fun c => absurd c (by decide)) (fun _ => ?_)
                    refine And.intro (fun c => absurd c (by decide)) (fun _ => ?_)
                    refine And.intro (fun c => absurd c (by decide)) (fun _ => ?_)
                    refine And.intro (fun c => absurd c (by decide)) (fun _ => ?_)
                    refine And.intro (fun c => absurd c (by decide)) (fun _ => ?_)
                    refine And.intro (fun c => absurd c (by decide)) (fun _ => ?_)
                    exact ⟨(), h, [], ⟨rfl, rfl, rfl, rfl, rfl, trivial⟩, ⟨⟨rfl, rfl, rfl, rfl, rfl, trivial⟩, ⟨rfl, rfl, rfl, trivial⟩, ⟨rfl, rfl, rfl, rfl, rfl, rfl, trivial⟩, trivial⟩, rfl⟩
                · rintro _ h
                  unfold m_spec_l06Good_j45 at h
                  refine .inl ?_
                  refine .inl ?_
                  refine ⟨[2000, 1, 2002, 3, 4, 2005, 1006, 7], [], by decide +kernel, ?_⟩
                  obtain ⟨x471, hx471, h⟩ := bsm h
                  refine And.intro (ix0 hx471) (Exists.intro _ (And.intro (gl06Deriv_encM_get (ixg hx471)) (And.intro rfl ?_)))
                  obtain ⟨r317, hr317, h⟩ := bsm h
                  refine callA (ih_spec_l06Good a37 x471 _ hr317) ?_
                  refine And.intro (fun c => ?_) (fun c => ?_)
                  · replace h := cT h c
                    refine .inl ?_
                    replace h := Option.some.inj h
                    subst h
                    exact ⟨[.p (B false)], [], ⟨[], ⟨rfl, trivial⟩, trivial, rfl⟩, rfl, rfl, rfl⟩
                  · replace h := cF h c
                    exact ⟨(wr .i64 (v148 + 1)), h, [], ⟨rfl, rfl, rfl, rfl, rfl, trivial⟩, ⟨⟨rfl, rfl, rfl, rfl, rfl, trivial⟩, ⟨rfl, rfl, rfl, trivial⟩, ⟨rfl, rfl, rfl, rfl, rfl, rfl, trivial⟩, trivial⟩, rfl⟩
        · rintro v159 h
          unfold m_spec_l06Good_j42 at h
          exact ⟨(v159, (wr .i64 (v149 + 1))), k38, h, Nat.lt_succ_self _, [], ⟨rfl, rfl, rfl, rfl, rfl, trivial⟩, ⟨⟨rfl, rfl, rfl, rfl, rfl, trivial⟩, ⟨rfl, rfl, rfl, trivial⟩, ⟨rfl, rfl, rfl, rfl, rfl, rfl, trivial⟩, trivial⟩, rfl⟩
      · replace h := cF h c
        exact ⟨(), h, [], trivial, trivial, rfl⟩
    · rintro _ h
      unfold m_spec_l06Good_j23 at h
      refine .inl ?_
      replace h := Option.some.inj h
      subst h
      exact ⟨[.p (B true)], [], ⟨[], ⟨rfl, trivial⟩, trivial, rfl⟩, rfl, rfl, rfl⟩
def m_spec_Good (n : Nat) (a39 : gBnf) (a40 : Int) (a41 : List Int) : Option (Bool × Int) :=
  (m_spec_l06Codes n a39 a40 a41).bind fun r318 =>
  bif (r318 != 0) then (
    some (false, r318))
  else (
    (m_spec_l06Read n a39 a40 a41).bind fun r319 =>
    bif (!r319.2) then (
      some (false, 2))
    else (
      (m_spec_l06Good n a39 r319.1).bind fun r320 =>
      some (r320, 0)))
theorem c_spec_Good (n : Nat) (a39 : gBnf) (a40 : Int) (a41 : List Int) (r : Bool × Int) (h : m_spec_Good n a39 a40 a41 = some r) : FnP Try.prog 9 [a39.enc, I a40, .lst (a41.map I)] [B r.1, I r.2] := by
  unfold m_spec_Good at h
  refine fn_introJ Try.func9 rfl rfl rfl ?_
  refine .inl ?_
  refine .inl ?_
  obtain ⟨r318, hr318, h⟩ := bsm h
  refine callA (c_spec_l06Codes n a39 a40 a41 _ hr318) ?_
  refine .inl ?_
  refine .inl ?_
  refine And.intro (fun c => ?_) (fun c => ?_)
  · replace h := cT h c
    refine .inl ?_
    replace h := Option.some.inj h
    subst h
    exact ⟨[.p (B false), .p (I r318)], [], ⟨[], ⟨rfl, rfl, trivial⟩, trivial, rfl⟩, rfl, rfl, rfl⟩
  · replace h := cF h c
    refine .inl ?_
    obtain ⟨r319, hr319, h⟩ := bsm h
    refine callA (c_spec_l06Read n a39 a40 a41 _ hr319) ?_
    refine .inl ?_
    refine .inl ?_
    refine And.intro (fun c => ?_) (fun c => ?_)
    · replace h := cT h c
      refine .inl ?_
      replace h := Option.some.inj h
      subst h
      exact ⟨[.p (B false), .p (I 2)], [], ⟨[], ⟨rfl, rfl, trivial⟩, trivial, rfl⟩, rfl, rfl, rfl⟩
    · replace h := cF h c
      refine .inl ?_
      obtain ⟨r320, hr320, h⟩ := bsm h
      refine callA (c_spec_l06Good n a39 r319.1 _ hr320) ?_
      replace h := Option.some.inj h
      subst h
      exact ⟨[.p (B r320), .p (I 0)], [], ⟨[], ⟨rfl, rfl, trivial⟩, trivial, rfl⟩, rfl, rfl, rfl⟩
def m_laws_toTerm (n : Nat) (a42 : gTerm) : Option gTerm :=
  some a42
theorem c_laws_toTerm (n : Nat) (a42 : gTerm) (r : gTerm) (h : m_laws_toTerm n a42 = some r) : FnP Try.prog 83 [a42.enc] [r.enc] := by
  unfold m_laws_toTerm at h
  refine fn_introJ Try.func83 rfl rfl rfl ?_
  refine .inl ?_
  refine .inl ?_
  refine .inl ?_
  refine .inl ?_
  refine .inl ?_
  refine .inl ?_
  replace h := Option.some.inj h
  subst h
  exact ⟨[.p (a42.enc)], [], ⟨[], ⟨rfl, trivial⟩, trivial, rfl⟩, rfl, rfl, rfl⟩
def m_laws_toTermS_j2 (v166 : List gTerm) : Option (List gTerm) :=
  some v166
def m_laws_toTermS_l3 (n : Nat) (a43 : List gTerm) : Nat → Int → List gTerm → Option (List gTerm)
  | 0, _, _ => none
  | k3 + 1, v167, v168 =>
    bif (decide (v167 < ((a43.map gTerm.enc).length : Int))) then (
      (ix a43 v167).bind fun x484 =>
      (m_laws_toTerm n x484).bind fun r326 =>
      (ix v168 v167).bind fun x485 =>
      (m_laws_toTermS_l3 n a43 k3) (wr .i64 (v167 + 1)) (v168.set v167.toNat r326))
    else (
      m_laws_toTermS_j2 v168)
def m_laws_toTermS (n : Nat) (a43 : List gTerm) : Option (List gTerm) :=
  gp (0 ≤ ((a43.map gTerm.enc).length : Int) ∧ ((a43.map gTerm.enc).length : Int) ≤ ((a43.map gTerm.enc).length : Int) ∧ ((a43.map gTerm.enc).length : Int) ≤ 68719476736) <|
  m_laws_toTermS_l3 n a43 n 0 (List.replicate ((a43.map gTerm.enc).length : Int).toNat (gTerm.mk ⟨#[]⟩ 0 0))
theorem c_laws_toTermS (n : Nat) (a43 : List gTerm) (r : List gTerm) (h : m_laws_toTermS n a43 = some r) : FnP Try.prog 35 [.lst (a43.map gTerm.enc)] [.lst (r.map gTerm.enc)] := by
  unfold m_laws_toTermS at h
  refine fn_introJ Try.func35 rfl rfl rfl ?_
  refine .inl ?_
  refine .inl ?_
  obtain ⟨g1, h⟩ := gpT h
  refine And.intro ⟨rfl, g1.1, g1.2.1, mkfit g1.2.2 rfl, by omega⟩ ?_
  refine .inr ⟨List gTerm, fun x => ([(3, .row 0 3 0 x.length)], [.row 130 3 (x.map gTerm.enc)]), fun x => m_laws_toTermS_j2 x = some r, ?_, ?_⟩
  · refine .inl ?_
    refine ⟨Int × List gTerm, fun x => ([(0, .p (.lst (a43.map gTerm.enc))), (3, .row 0 3 0 x.2.length), (4, .p (I x.1))], [.row 130 3 (x.2.map gTerm.enc)]), fun x k => m_laws_toTermS_l3 n a43 k x.1 x.2 = some r, ⟨(0, (List.replicate ((a43.map gTerm.enc).length : Int).toNat (gTerm.mk ⟨#[]⟩ 0 0))), n, h, [], ⟨rfl, (congrArg (AV.row 0 3 0) (show (List.replicate ((a43.map gTerm.enc).length : Int).toNat (gTerm.mk ⟨#[]⟩ 0 0)).length = ((a43.map gTerm.enc).length : Int).toNat by simp)), rfl, trivial⟩, ⟨(congrArg (Bk.row 130 3) (show (List.replicate ((a43.map gTerm.enc).length : Int).toNat (gTerm.mk ⟨#[]⟩ 0 0)).map gTerm.enc = List.replicate ((a43.map gTerm.enc).length : Int).toNat ((gTerm.mk ⟨#[]⟩ 0 0).enc) by simp)), trivial⟩, rfl⟩, ?_⟩
    rintro ⟨v167, v168⟩ (_ | k3) h
    · exact ns h
    unfold m_laws_toTermS_l3 at h
    refine .inl ?_
    refine .inl ?_
    refine And.intro (fun c => ?_) (fun c => ?_)
    · replace h := cT h c
      refine .inl ?_
      obtain ⟨x484, hx484, h⟩ := bsm h
      refine And.intro (ix0 hx484) (Exists.intro _ (And.intro (gm (ixg hx484)) (And.intro rfl ?_)))
      obtain ⟨r326, hr326, h⟩ := bsm h
      refine callA (c_laws_toTerm n x484 _ hr326) ?_
      obtain ⟨x485, hx485, h⟩ := bsm h
      refine And.intro (ixr hx485) ?_
      refine And.intro ⟨(by have q := ixl hx485; simp at q ⊢; omega), ⟨rfl, rfl⟩, rfl⟩ ?_
      exact ⟨((wr .i64 (v167 + 1)), (v168.set v167.toNat r326)), k3, h, Nat.lt_succ_self _, [], ⟨rfl, (congrArg (AV.row 0 3 0) (show (v168.set v167.toNat r326).length = v168.length by simp)), rfl, trivial⟩, ⟨(congrArg (Bk.row 130 3) (show (v168.set v167.toNat r326).map gTerm.enc = (v168.map gTerm.enc).set (0 + v167.toNat) (r326.enc) by simp)), trivial⟩, rfl⟩
    · replace h := cF h c
      exact ⟨v168, h, [], ⟨rfl, trivial⟩, ⟨rfl, trivial⟩, rfl⟩
  · rintro v166 h
    unfold m_laws_toTermS_j2 at h
    refine .inl ?_
    refine .inl (Exists.intro _ (And.intro (rowN rfl (show v166.length = (v166.map gTerm.enc).length by simp)) ?_))
    replace h := Option.some.inj h
    subst h
    exact ⟨[.p (.lst (v166.map gTerm.enc))], [], ⟨[], ⟨rfl, trivial⟩, trivial, rfl⟩, rfl, rfl, rfl⟩
def m_laws_toStringS_j2 (v175 : List ByteArray) : Option (List ByteArray) :=
  some v175
def m_laws_toStringS_l3 (a44 : List ByteArray) : Nat → Int → List ByteArray → Option (List ByteArray)
  | 0, _, _ => none
  | k3 + 1, v176, v177 =>
    bif (decide (v176 < ((a44.map S).length : Int))) then (
      (ix a44 v176).bind fun x496 =>
      (ix v177 v176).bind fun x497 =>
      (m_laws_toStringS_l3 a44 k3) (wr .i64 (v176 + 1)) (v177.set v176.toNat x496))
    else (
      m_laws_toStringS_j2 v177)
def m_laws_toStringS (n : Nat) (a44 : List ByteArray) : Option (List ByteArray) :=
  gp (0 ≤ ((a44.map S).length : Int) ∧ ((a44.map S).length : Int) ≤ ((a44.map S).length : Int) ∧ ((a44.map S).length : Int) ≤ 68719476736) <|
  m_laws_toStringS_l3 a44 n 0 (List.replicate ((a44.map S).length : Int).toNat (⟨#[]⟩ : ByteArray))
theorem c_laws_toStringS (n : Nat) (a44 : List ByteArray) (r : List ByteArray) (h : m_laws_toStringS n a44 = some r) : FnP Try.prog 36 [.lst (a44.map S)] [.lst (r.map S)] := by
  unfold m_laws_toStringS at h
  refine fn_introJ Try.func36 rfl rfl rfl ?_
  refine .inl ?_
  refine .inl ?_
  obtain ⟨g1, h⟩ := gpT h
  refine And.intro ⟨rfl, g1.1, g1.2.1, mkfit g1.2.2 rfl, by omega⟩ ?_
  refine .inr ⟨List ByteArray, fun x => ([(3, .row 0 1 0 x.length)], [.row 9 1 (x.map S)]), fun x => m_laws_toStringS_j2 x = some r, ?_, ?_⟩
  · refine .inl ?_
    refine ⟨Int × List ByteArray, fun x => ([(0, .p (.lst (a44.map S))), (3, .row 0 1 0 x.2.length), (4, .p (I x.1))], [.row 9 1 (x.2.map S)]), fun x k => m_laws_toStringS_l3 a44 k x.1 x.2 = some r, ⟨(0, (List.replicate ((a44.map S).length : Int).toNat (⟨#[]⟩ : ByteArray))), n, h, [], ⟨rfl, (congrArg (AV.row 0 1 0) (show (List.replicate ((a44.map S).length : Int).toNat (⟨#[]⟩ : ByteArray)).length = ((a44.map S).length : Int).toNat by simp)), rfl, trivial⟩, ⟨(congrArg (Bk.row 9 1) (show (List.replicate ((a44.map S).length : Int).toNat (⟨#[]⟩ : ByteArray)).map S = List.replicate ((a44.map S).length : Int).toNat (S ⟨#[]⟩) by simp)), trivial⟩, rfl⟩, ?_⟩
    rintro ⟨v176, v177⟩ (_ | k3) h
    · exact ns h
    unfold m_laws_toStringS_l3 at h
    refine .inl ?_
    refine .inl ?_
    refine And.intro (fun c => ?_) (fun c => ?_)
    · replace h := cT h c
      refine .inl ?_
      obtain ⟨x496, hx496, h⟩ := bsm h
      refine And.intro (ix0 hx496) (Exists.intro _ (And.intro (gm (ixg hx496)) (And.intro rfl ?_)))
      obtain ⟨x497, hx497, h⟩ := bsm h
      refine And.intro (ixr hx497) ?_
      refine And.intro ⟨(by have q := ixl hx497; simp at q ⊢; omega), ⟨rfl, rfl⟩, rfl⟩ ?_
      exact ⟨((wr .i64 (v176 + 1)), (v177.set v176.toNat x496)), k3, h, Nat.lt_succ_self _, [], ⟨rfl, (congrArg (AV.row 0 1 0) (show (v177.set v176.toNat x496).length = v177.length by simp)), rfl, trivial⟩, ⟨(congrArg (Bk.row 9 1) (show (v177.set v176.toNat x496).map S = (v177.map S).set (0 + v176.toNat) (S x496) by simp)), trivial⟩, rfl⟩
    · replace h := cF h c
      exact ⟨v177, h, [], ⟨rfl, trivial⟩, ⟨rfl, trivial⟩, rfl⟩
  · rintro v175 h
    unfold m_laws_toStringS_j2 at h
    refine .inl ?_
    refine .inl (Exists.intro _ (And.intro (rowN rfl (show v175.length = (v175.map S).length by simp)) ?_))
    replace h := Option.some.inj h
    subst h
    exact ⟨[.p (.lst (v175.map S))], [], ⟨[], ⟨rfl, trivial⟩, trivial, rfl⟩, rfl, rfl, rfl⟩
def m_laws_toIntS_j2 (v184 : List Int) : Option (List Int) :=
  some v184
def m_laws_toIntS_l3 (a45 : List Int) : Nat → Int → List Int → Option (List Int)
  | 0, _, _ => none
  | k3 + 1, v185, v186 =>
    bif (decide (v185 < ((a45.map I).length : Int))) then (
      (ix a45 v185).bind fun x508 =>
      (ix v186 v185).bind fun x509 =>
      (m_laws_toIntS_l3 a45 k3) (wr .i64 (v185 + 1)) (v186.set v185.toNat x508))
    else (
      m_laws_toIntS_j2 v186)
def m_laws_toIntS (n : Nat) (a45 : List Int) : Option (List Int) :=
  gp (0 ≤ ((a45.map I).length : Int) ∧ ((a45.map I).length : Int) ≤ ((a45.map I).length : Int) ∧ ((a45.map I).length : Int) ≤ 68719476736) <|
  m_laws_toIntS_l3 a45 n 0 (List.replicate ((a45.map I).length : Int).toNat 0)
theorem c_laws_toIntS (n : Nat) (a45 : List Int) (r : List Int) (h : m_laws_toIntS n a45 = some r) : FnP Try.prog 11 [.lst (a45.map I)] [.lst (r.map I)] := by
  unfold m_laws_toIntS at h
  refine fn_introJ Try.func11 rfl rfl rfl ?_
  refine .inl ?_
  refine .inl ?_
  obtain ⟨g1, h⟩ := gpT h
  refine And.intro ⟨rfl, g1.1, g1.2.1, mkfit g1.2.2 rfl, by omega⟩ ?_
  refine .inr ⟨List Int, fun x => ([(3, .row 0 1 0 x.length)], [.row 3 1 (x.map I)]), fun x => m_laws_toIntS_j2 x = some r, ?_, ?_⟩
  · refine .inl ?_
    refine ⟨Int × List Int, fun x => ([(0, .p (.lst (a45.map I))), (3, .row 0 1 0 x.2.length), (4, .p (I x.1))], [.row 3 1 (x.2.map I)]), fun x k => m_laws_toIntS_l3 a45 k x.1 x.2 = some r, ⟨(0, (List.replicate ((a45.map I).length : Int).toNat 0)), n, h, [], ⟨rfl, (congrArg (AV.row 0 1 0) (show (List.replicate ((a45.map I).length : Int).toNat 0).length = ((a45.map I).length : Int).toNat by simp)), rfl, trivial⟩, ⟨(congrArg (Bk.row 3 1) (show (List.replicate ((a45.map I).length : Int).toNat 0).map I = List.replicate ((a45.map I).length : Int).toNat (I 0) by simp)), trivial⟩, rfl⟩, ?_⟩
    rintro ⟨v185, v186⟩ (_ | k3) h
    · exact ns h
    unfold m_laws_toIntS_l3 at h
    refine .inl ?_
    refine .inl ?_
    refine And.intro (fun c => ?_) (fun c => ?_)
    · replace h := cT h c
      refine .inl ?_
      obtain ⟨x508, hx508, h⟩ := bsm h
      refine And.intro (ix0 hx508) (Exists.intro _ (And.intro (gm (ixg hx508)) (And.intro rfl ?_)))
      obtain ⟨x509, hx509, h⟩ := bsm h
      refine And.intro (ixr hx509) ?_
      refine And.intro ⟨(by have q := ixl hx509; simp at q ⊢; omega), ⟨rfl, rfl⟩, rfl⟩ ?_
      exact ⟨((wr .i64 (v185 + 1)), (v186.set v185.toNat x508)), k3, h, Nat.lt_succ_self _, [], ⟨rfl, (congrArg (AV.row 0 1 0) (show (v186.set v185.toNat x508).length = v186.length by simp)), rfl, trivial⟩, ⟨(congrArg (Bk.row 3 1) (show (v186.set v185.toNat x508).map I = (v186.map I).set (0 + v185.toNat) (I x508) by simp)), trivial⟩, rfl⟩
    · replace h := cF h c
      exact ⟨v186, h, [], ⟨rfl, trivial⟩, ⟨rfl, trivial⟩, rfl⟩
  · rintro v184 h
    unfold m_laws_toIntS_j2 at h
    refine .inl ?_
    refine .inl (Exists.intro _ (And.intro (rowN rfl (show v184.length = (v184.map I).length by simp)) ?_))
    replace h := Option.some.inj h
    subst h
    exact ⟨[.p (.lst (v184.map I))], [], ⟨[], ⟨rfl, trivial⟩, trivial, rfl⟩, rfl, rfl, rfl⟩
def m_laws_toProd (n : Nat) (a46 : gProd) : Option gProd :=
  (m_laws_toIntS n a46.right_).bind fun r327 =>
  some (gProd.mk a46.left_ r327 a46.label_ a46.level_ a46.assoc_)
theorem c_laws_toProd (n : Nat) (a46 : gProd) (r : gProd) (h : m_laws_toProd n a46 = some r) : FnP Try.prog 84 [a46.enc] [r.enc] := by
  unfold m_laws_toProd at h
  refine fn_introJ Try.func84 rfl rfl rfl ?_
  refine .inl ?_
  refine .inl ?_
  refine .inl ?_
  refine .inl ?_
  obtain ⟨r327, hr327, h⟩ := bsm h
  refine callA (c_laws_toIntS n a46.right_ _ hr327) ?_
  refine .inl ?_
  refine .inl ?_
  refine .inl ?_
  refine .inl ?_
  replace h := Option.some.inj h
  subst h
  exact ⟨[.p ((gProd.mk a46.left_ r327 a46.label_ a46.level_ a46.assoc_).enc)], [], ⟨[], ⟨rfl, trivial⟩, trivial, rfl⟩, rfl, rfl, rfl⟩
def m_laws_toProdS_j2 (v193 : List gProd) : Option (List gProd) :=
  some v193
def m_laws_toProdS_l3 (n : Nat) (a47 : List gProd) : Nat → Int → List gProd → Option (List gProd)
  | 0, _, _ => none
  | k3 + 1, v194, v195 =>
    bif (decide (v194 < ((a47.map gProd.enc).length : Int))) then (
      (ix a47 v194).bind fun x520 =>
      (m_laws_toProd n x520).bind fun r333 =>
      (ix v195 v194).bind fun x521 =>
      (m_laws_toProdS_l3 n a47 k3) (wr .i64 (v194 + 1)) (v195.set v194.toNat r333))
    else (
      m_laws_toProdS_j2 v195)
def m_laws_toProdS (n : Nat) (a47 : List gProd) : Option (List gProd) :=
  gp (0 ≤ ((a47.map gProd.enc).length : Int) ∧ ((a47.map gProd.enc).length : Int) ≤ ((a47.map gProd.enc).length : Int) ∧ ((a47.map gProd.enc).length : Int) ≤ 68719476736) <|
  m_laws_toProdS_l3 n a47 n 0 (List.replicate ((a47.map gProd.enc).length : Int).toNat (gProd.mk 0 [] ⟨#[]⟩ 0 0))
theorem c_laws_toProdS (n : Nat) (a47 : List gProd) (r : List gProd) (h : m_laws_toProdS n a47 = some r) : FnP Try.prog 37 [.lst (a47.map gProd.enc)] [.lst (r.map gProd.enc)] := by
  unfold m_laws_toProdS at h
  refine fn_introJ Try.func37 rfl rfl rfl ?_
  refine .inl ?_
  refine .inl ?_
  obtain ⟨g1, h⟩ := gpT h
  refine And.intro ⟨rfl, g1.1, g1.2.1, mkfit g1.2.2 rfl, by omega⟩ ?_
  refine .inr ⟨List gProd, fun x => ([(3, .row 0 5 0 x.length)], [.row 112 5 (x.map gProd.enc)]), fun x => m_laws_toProdS_j2 x = some r, ?_, ?_⟩
  · refine .inl ?_
    refine ⟨Int × List gProd, fun x => ([(0, .p (.lst (a47.map gProd.enc))), (3, .row 0 5 0 x.2.length), (4, .p (I x.1))], [.row 112 5 (x.2.map gProd.enc)]), fun x k => m_laws_toProdS_l3 n a47 k x.1 x.2 = some r, ⟨(0, (List.replicate ((a47.map gProd.enc).length : Int).toNat (gProd.mk 0 [] ⟨#[]⟩ 0 0))), n, h, [], ⟨rfl, (congrArg (AV.row 0 5 0) (show (List.replicate ((a47.map gProd.enc).length : Int).toNat (gProd.mk 0 [] ⟨#[]⟩ 0 0)).length = ((a47.map gProd.enc).length : Int).toNat by simp)), rfl, trivial⟩, ⟨(congrArg (Bk.row 112 5) (show (List.replicate ((a47.map gProd.enc).length : Int).toNat (gProd.mk 0 [] ⟨#[]⟩ 0 0)).map gProd.enc = List.replicate ((a47.map gProd.enc).length : Int).toNat ((gProd.mk 0 [] ⟨#[]⟩ 0 0).enc) by simp)), trivial⟩, rfl⟩, ?_⟩
    rintro ⟨v194, v195⟩ (_ | k3) h
    · exact ns h
    unfold m_laws_toProdS_l3 at h
    refine .inl ?_
    refine .inl ?_
    refine And.intro (fun c => ?_) (fun c => ?_)
    · replace h := cT h c
      refine .inl ?_
      obtain ⟨x520, hx520, h⟩ := bsm h
      refine And.intro (ix0 hx520) (Exists.intro _ (And.intro (gm (ixg hx520)) (And.intro rfl ?_)))
      obtain ⟨r333, hr333, h⟩ := bsm h
      refine callA (c_laws_toProd n x520 _ hr333) ?_
      obtain ⟨x521, hx521, h⟩ := bsm h
      refine And.intro (ixr hx521) ?_
      refine And.intro ⟨(by have q := ixl hx521; simp at q ⊢; omega), ⟨rfl, rfl⟩, rfl⟩ ?_
      exact ⟨((wr .i64 (v194 + 1)), (v195.set v194.toNat r333)), k3, h, Nat.lt_succ_self _, [], ⟨rfl, (congrArg (AV.row 0 5 0) (show (v195.set v194.toNat r333).length = v195.length by simp)), rfl, trivial⟩, ⟨(congrArg (Bk.row 112 5) (show (v195.set v194.toNat r333).map gProd.enc = (v195.map gProd.enc).set (0 + v194.toNat) (r333.enc) by simp)), trivial⟩, rfl⟩
    · replace h := cF h c
      exact ⟨v195, h, [], ⟨rfl, trivial⟩, ⟨rfl, trivial⟩, rfl⟩
  · rintro v193 h
    unfold m_laws_toProdS_j2 at h
    refine .inl ?_
    refine .inl (Exists.intro _ (And.intro (rowN rfl (show v193.length = (v193.map gProd.enc).length by simp)) ?_))
    replace h := Option.some.inj h
    subst h
    exact ⟨[.p (.lst (v193.map gProd.enc))], [], ⟨[], ⟨rfl, trivial⟩, trivial, rfl⟩, rfl, rfl, rfl⟩
def m_laws_toBnf (n : Nat) (a48 : gBnf) : Option gBnf :=
  (m_laws_toTermS n a48.terms_).bind fun r334 =>
  (m_laws_toStringS n a48.nons_).bind fun r335 =>
  (m_laws_toProdS n a48.prods_).bind fun r336 =>
  some (gBnf.mk r334 r335 a48.own_ r336)
theorem c_laws_toBnf (n : Nat) (a48 : gBnf) (r : gBnf) (h : m_laws_toBnf n a48 = some r) : FnP Try.prog 10 [a48.enc] [r.enc] := by
  unfold m_laws_toBnf at h
  refine fn_introJ Try.func10 rfl rfl rfl ?_
  refine .inl ?_
  refine .inl ?_
  refine .inl ?_
  obtain ⟨r334, hr334, h⟩ := bsm h
  refine callA (c_laws_toTermS n a48.terms_ _ hr334) ?_
  refine .inl ?_
  obtain ⟨r335, hr335, h⟩ := bsm h
  refine callA (c_laws_toStringS n a48.nons_ _ hr335) ?_
  refine .inl ?_
  refine .inl ?_
  obtain ⟨r336, hr336, h⟩ := bsm h
  refine callA (c_laws_toProdS n a48.prods_ _ hr336) ?_
  refine .inl ?_
  replace h := Option.some.inj h
  subst h
  exact ⟨[.p ((gBnf.mk r334 r335 a48.own_ r336).enc)], [], ⟨[], ⟨rfl, trivial⟩, trivial, rfl⟩, rfl, rfl, rfl⟩
def m_impl_isLetter (n : Nat) (a49 : Int) : Option Bool :=
  bif (decide (a49 ≥ 97)) then (
    bif (decide (a49 ≤ 122)) then (
      some true)
    else (
      bif (decide (a49 ≥ 65)) then (
        some (decide (a49 ≤ 90)))
      else (
        some false)))
  else (
    bif (decide (a49 ≥ 65)) then (
      some (decide (a49 ≤ 90)))
    else (
      some false))
theorem c_impl_isLetter (n : Nat) (a49 : Int) (r : Bool) (h : m_impl_isLetter n a49 = some r) : FnP Try.prog 111 [.raw (.int .u8 a49)] [B r] := by
  unfold m_impl_isLetter at h
  refine fn_introJ Try.func111 rfl rfl rfl ?_
  refine .inl ?_
  refine .inl ?_
  refine And.intro (fun c => ?_) (fun c => ?_)
  · replace h := cT h c
    refine And.intro (fun _ => ?_) (fun c => absurd c (by decide))
    refine And.intro (fun _ => ?_) (fun c => absurd c (by decide))
    refine And.intro (fun c => ?_) (fun c => ?_)
    · replace h := cF h c
      refine And.intro (fun _ => ?_) (fun c => absurd c (by decide))
      refine And.intro (fun _ => ?_) (fun c => absurd c (by decide))
      refine And.intro (fun c => ?_) (fun c => ?_)
      · replace h := cT h c
        refine And.intro (fun _ => ?_) (fun c => absurd c (by decide))
        refine And.intro (fun _ => ?_) (fun c => absurd c (by decide))
        refine And.intro (fun _ => ?_) (fun c => absurd c (by decide))
        refine And.intro (fun c => absurd c (by decide)) (fun _ => ?_)
        replace h := Option.some.inj h
        subst h
        exact ⟨[.p (B (decide (a49 ≤ 90)))], [], ⟨[], ⟨rfl, trivial⟩, trivial, rfl⟩, rfl, rfl, rfl⟩
      · replace h := cF h c
        refine And.intro (fun c => absurd c (by decide)) (fun _ => ?_)
        refine And.intro (fun _ => ?_) (fun c => absurd c (by decide))
        refine And.intro (fun c => absurd c (by decide)) (fun _ => ?_)
        refine And.intro (fun c => absurd c (by decide)) (fun _ => ?_)
        replace h := Option.some.inj h
        subst h
        exact ⟨[.p (B false)], [], ⟨[], ⟨rfl, trivial⟩, trivial, rfl⟩, rfl, rfl, rfl⟩
    · replace h := cT h c
      refine And.intro (fun c => absurd c (by decide)) (fun _ => ?_)
      refine And.intro (fun c => absurd c (by decide)) (fun _ => ?_)
      refine And.intro (fun c => absurd c (by decide)) (fun _ => ?_)
      refine And.intro (fun _ => ?_) (fun c => absurd c (by decide))
      replace h := Option.some.inj h
      subst h
      exact ⟨[.p (B true)], [], ⟨[], ⟨rfl, trivial⟩, trivial, rfl⟩, rfl, rfl, rfl⟩
  · replace h := cF h c
    refine And.intro (fun c => absurd c (by decide)) (fun _ => ?_)
    refine And.intro (fun c => absurd c (by decide)) (fun _ => ?_)
    refine And.intro (fun _ => ?_) (fun c => absurd c (by decide))
    refine And.intro (fun _ => ?_) (fun c => absurd c (by decide))
    refine And.intro (fun _ => ?_) (fun c => absurd c (by decide))
    refine And.intro (fun c => ?_) (fun c => ?_)
    · replace h := cT h c
      refine And.intro (fun _ => ?_) (fun c => absurd c (by decide))
      refine And.intro (fun _ => ?_) (fun c => absurd c (by decide))
      refine And.intro (fun _ => ?_) (fun c => absurd c (by decide))
      refine And.intro (fun c => absurd c (by decide)) (fun _ => ?_)
      replace h := Option.some.inj h
      subst h
      exact ⟨[.p (B (decide (a49 ≤ 90)))], [], ⟨[], ⟨rfl, trivial⟩, trivial, rfl⟩, rfl, rfl, rfl⟩
    · replace h := cF h c
      refine And.intro (fun c => absurd c (by decide)) (fun _ => ?_)
      refine And.intro (fun _ => ?_) (fun c => absurd c (by decide))
      refine And.intro (fun c => absurd c (by decide)) (fun _ => ?_)
      refine And.intro (fun c => absurd c (by decide)) (fun _ => ?_)
      replace h := Option.some.inj h
      subst h
      exact ⟨[.p (B false)], [], ⟨[], ⟨rfl, trivial⟩, trivial, rfl⟩, rfl, rfl, rfl⟩
def m_impl_isDigit (n : Nat) (a50 : Int) : Option Bool :=
  bif (decide (a50 ≥ 48)) then (
    some (decide (a50 ≤ 57)))
  else (
    some false)
theorem c_impl_isDigit (n : Nat) (a50 : Int) (r : Bool) (h : m_impl_isDigit n a50 = some r) : FnP Try.prog 127 [.raw (.int .u8 a50)] [B r] := by
  unfold m_impl_isDigit at h
  refine fn_introJ Try.func127 rfl rfl rfl ?_
  refine .inl ?_
  refine .inl ?_
  refine And.intro (fun c => ?_) (fun c => ?_)
  · replace h := cT h c
    refine And.intro (fun _ => ?_) (fun c => absurd c (by decide))
    refine And.intro (fun _ => ?_) (fun c => absurd c (by decide))
    replace h := Option.some.inj h
    subst h
    exact ⟨[.p (B (decide (a50 ≤ 57)))], [], ⟨[], ⟨rfl, trivial⟩, trivial, rfl⟩, rfl, rfl, rfl⟩
  · replace h := cF h c
    refine And.intro (fun c => absurd c (by decide)) (fun _ => ?_)
    refine And.intro (fun c => absurd c (by decide)) (fun _ => ?_)
    replace h := Option.some.inj h
    subst h
    exact ⟨[.p (B false)], [], ⟨[], ⟨rfl, trivial⟩, trivial, rfl⟩, rfl, rfl, rfl⟩
def m_impl_inName (n : Nat) (a51 : Int) : Option Bool :=
  (m_impl_isLetter n a51).bind fun r337 =>
  bif r337 then (
    some true)
  else (
    (m_impl_isDigit n a51).bind fun r338 =>
    bif r338 then (
      some true)
    else (
      some (a51 == 95)))
theorem c_impl_inName (n : Nat) (a51 : Int) (r : Bool) (h : m_impl_inName n a51 = some r) : FnP Try.prog 112 [.raw (.int .u8 a51)] [B r] := by
  unfold m_impl_inName at h
  refine fn_introJ Try.func112 rfl rfl rfl ?_
  refine .inl ?_
  refine .inl ?_
  obtain ⟨r337, hr337, h⟩ := bsm h
  refine callA (c_impl_isLetter n a51 _ hr337) ?_
  refine And.intro (fun c => ?_) (fun c => ?_)
  · replace h := cF h c
    refine And.intro (fun _ => ?_) (fun c => absurd c (by decide))
    obtain ⟨r338, hr338, h⟩ := bsm h
    refine callA (c_impl_isDigit n a51 _ hr338) ?_
    refine And.intro (fun c => absurd c (by decide)) (fun _ => ?_)
    refine And.intro (fun c => ?_) (fun c => ?_)
    · replace h := cF h c
      refine And.intro (fun _ => ?_) (fun c => absurd c (by decide))
      refine And.intro (fun c => absurd c (by decide)) (fun _ => ?_)
      replace h := Option.some.inj h
      subst h
      exact ⟨[.p (B (a51 == 95))], [], ⟨[], ⟨rfl, trivial⟩, trivial, rfl⟩, rfl, rfl, rfl⟩
    · replace h := cT h c
      refine And.intro (fun c => absurd c (by decide)) (fun _ => ?_)
      refine And.intro (fun _ => ?_) (fun c => absurd c (by decide))
      replace h := Option.some.inj h
      subst h
      exact ⟨[.p (B true)], [], ⟨[], ⟨rfl, trivial⟩, trivial, rfl⟩, rfl, rfl, rfl⟩
  · replace h := cT h c
    refine And.intro (fun c => absurd c (by decide)) (fun _ => ?_)
    refine And.intro (fun _ => ?_) (fun c => absurd c (by decide))
    refine And.intro (fun c => absurd c (by decide)) (fun _ => ?_)
    refine And.intro (fun c => absurd c (by decide)) (fun _ => ?_)
    refine And.intro (fun _ => ?_) (fun c => absurd c (by decide))
    replace h := Option.some.inj h
    subst h
    exact ⟨[.p (B true)], [], ⟨[], ⟨rfl, trivial⟩, trivial, rfl⟩, rfl, rfl, rfl⟩
def m_impl_nameOK_j2 : Option Bool :=
  some true
def m_impl_nameOK_l3 (n : Nat) (a52 : ByteArray) : Nat → Int → Option Bool
  | 0, _ => none
  | k3 + 1, v200 =>
    bif (decide (v200 < (a52.size : Int))) then (
      gp (0 ≤ v200 ∧ v200 < (a52.size : Int)) <|
      (m_impl_inName n (bt a52 v200)).bind fun r346 =>
      bif (!r346) then (
        some false)
      else (
        (m_impl_nameOK_l3 n a52 k3) (wr .i64 (v200 + 1))))
    else (
      m_impl_nameOK_j2)
def m_impl_nameOK (n : Nat) (a52 : ByteArray) : Option Bool :=
  bif (decide ((a52.size : Int) < 1)) then (
    some false)
  else (
    bif (decide ((a52.size : Int) > 24)) then (
      some false)
    else (
      gp (0 ≤ (0 : Int) ∧ (0 : Int) < (a52.size : Int)) <|
      (m_impl_isLetter n (bt a52 0)).bind fun r340 =>
      bif (!r340) then (
        some false)
      else (
        m_impl_nameOK_l3 n a52 n 0)))
theorem c_impl_nameOK (n : Nat) (a52 : ByteArray) (r : Bool) (h : m_impl_nameOK n a52 = some r) : FnP Try.prog 67 [S a52] [B r] := by
  unfold m_impl_nameOK at h
  refine fn_introJ Try.func67 rfl rfl rfl ?_
  refine .inl ?_
  refine .inl ?_
  refine .inl ?_
  refine And.intro (fun c => ?_) (fun c => ?_)
  · replace h := cF h c
    refine And.intro (fun _ => ?_) (fun c => absurd c (by decide))
    refine And.intro (fun _ => ?_) (fun c => absurd c (by decide))
    refine And.intro (fun c => absurd c (by decide)) (fun _ => ?_)
    refine And.intro (fun c => ?_) (fun c => ?_)
    · replace h := cF h c
      refine And.intro (fun _ => ?_) (fun c => absurd c (by decide))
      obtain ⟨g8, h⟩ := gpT h
      refine And.intro g8 ?_
      refine And.intro (fun _ => ?_) (fun c => absurd c (by decide))
      obtain ⟨r340, hr340, h⟩ := bsm h
      refine callA (c_impl_isLetter n (bt a52 0) _ hr340) ?_
      refine And.intro (fun _ => ?_) (fun c => absurd c (by decide))
      refine And.intro (fun c => absurd c (by decide)) (fun _ => ?_)
      refine And.intro (fun c => ?_) (fun c => ?_)
      · replace h := cT h c
        refine .inl ?_
        replace h := Option.some.inj h
        subst h
        exact ⟨[.p (B false)], [], ⟨[], ⟨rfl, trivial⟩, trivial, rfl⟩, rfl, rfl, rfl⟩
      · replace h := cF h c
        refine .inr ⟨Unit, fun x => ([], []), fun x => m_impl_nameOK_j2 = some r, ?_, ?_⟩
        · refine .inl ?_
          refine ⟨Int, fun x => ([(0, .p (S a52)), (3, .p (I x))], []), fun x k => m_impl_nameOK_l3 n a52 k x = some r, ⟨0, n, h, [], ⟨rfl, rfl, trivial⟩, trivial, rfl⟩, ?_⟩
          rintro v200 (_ | k3) h
          · exact ns h
          unfold m_impl_nameOK_l3 at h
          refine .inl ?_
          refine .inl ?_
          refine And.intro (fun c => ?_) (fun c => ?_)
          · replace h := cT h c
            refine .inl ?_
            refine .inl ?_
            obtain ⟨g7, h⟩ := gpT h
            refine And.intro g7 ?_
            obtain ⟨r346, hr346, h⟩ := bsm h
            refine callA (c_impl_inName n (bt a52 v200) _ hr346) ?_
            refine And.intro (fun c => ?_) (fun c => ?_)
            · replace h := cT h c
              refine .inl ?_
              replace h := Option.some.inj h
              subst h
              exact ⟨[.p (B false)], [], ⟨[], ⟨rfl, trivial⟩, trivial, rfl⟩, rfl, rfl, rfl⟩
            · replace h := cF h c
              exact ⟨(wr .i64 (v200 + 1)), k3, h, Nat.lt_succ_self _, [], ⟨rfl, rfl, trivial⟩, trivial, rfl⟩
          · replace h := cF h c
            exact ⟨(), h, [], trivial, trivial, rfl⟩
        · rintro _ h
          unfold m_impl_nameOK_j2 at h
          refine .inl ?_
          replace h := Option.some.inj h
          subst h
          exact ⟨[.p (B true)], [], ⟨[], ⟨rfl, trivial⟩, trivial, rfl⟩, rfl, rfl, rfl⟩
    · replace h := cT h c
      refine And.intro (fun c => absurd c (by decide)) (fun _ => ?_)
      refine And.intro (fun c => absurd c (by decide)) (fun _ => ?_)
      refine And.intro (fun c => absurd c (by decide)) (fun _ => ?_)
      refine And.intro (fun _ => ?_) (fun c => absurd c (by decide))
      refine And.intro (fun _ => ?_) (fun c => absurd c (by decide))
      refine .inl ?_
      replace h := Option.some.inj h
      subst h
      exact ⟨[.p (B false)], [], ⟨[], ⟨rfl, trivial⟩, trivial, rfl⟩, rfl, rfl, rfl⟩
  · replace h := cT h c
    refine And.intro (fun c => absurd c (by decide)) (fun _ => ?_)
    refine And.intro (fun c => absurd c (by decide)) (fun _ => ?_)
    refine And.intro (fun _ => ?_) (fun c => absurd c (by decide))
    refine And.intro (fun c => absurd c (by decide)) (fun _ => ?_)
    refine And.intro (fun c => absurd c (by decide)) (fun _ => ?_)
    refine And.intro (fun c => absurd c (by decide)) (fun _ => ?_)
    refine And.intro (fun c => absurd c (by decide)) (fun _ => ?_)
    refine And.intro (fun _ => ?_) (fun c => absurd c (by decide))
    refine And.intro (fun _ => ?_) (fun c => absurd c (by decide))
    refine .inl ?_
    replace h := Option.some.inj h
    subst h
    exact ⟨[.p (B false)], [], ⟨[], ⟨rfl, trivial⟩, trivial, rfl⟩, rfl, rfl, rfl⟩
def m_impl_levelOK (n : Nat) (a53 : Int) (a54 : Int) : Option Bool :=
  bif (decide (a53 < 0)) then (
    some false)
  else (
    bif (decide (a53 > 8)) then (
      some false)
    else (
      bif (a53 == 0) then (
        some (a54 == 0))
      else (
        bif (decide (a54 ≥ 1)) then (
          some (decide (a54 ≤ 3)))
        else (
          some false))))
theorem c_impl_levelOK (n : Nat) (a53 : Int) (a54 : Int) (r : Bool) (h : m_impl_levelOK n a53 a54 = some r) : FnP Try.prog 116 [I a53, I a54] [B r] := by
  unfold m_impl_levelOK at h
  refine fn_introJ Try.func116 rfl rfl rfl ?_
  refine .inl ?_
  refine .inl ?_
  refine .inl ?_
  refine And.intro (fun c => ?_) (fun c => ?_)
  · replace h := cF h c
    refine And.intro (fun _ => ?_) (fun c => absurd c (by decide))
    refine And.intro (fun c => absurd c (by decide)) (fun _ => ?_)
    refine And.intro (fun c => ?_) (fun c => ?_)
    · replace h := cT h c
      refine .inl ?_
      replace h := Option.some.inj h
      subst h
      exact ⟨[.p (B false)], [], ⟨[], ⟨rfl, trivial⟩, trivial, rfl⟩, rfl, rfl, rfl⟩
    · replace h := cF h c
      refine .inl ?_
      refine .inl ?_
      refine And.intro (fun c => ?_) (fun c => ?_)
      · replace h := cT h c
        refine .inl ?_
        replace h := Option.some.inj h
        subst h
        exact ⟨[.p (B (a54 == 0))], [], ⟨[], ⟨rfl, trivial⟩, trivial, rfl⟩, rfl, rfl, rfl⟩
      · replace h := cF h c
        refine .inl ?_
        refine And.intro (fun c => ?_) (fun c => ?_)
        · replace h := cT h c
          refine And.intro (fun _ => ?_) (fun c => absurd c (by decide))
          refine And.intro (fun _ => ?_) (fun c => absurd c (by decide))
          replace h := Option.some.inj h
          subst h
          exact ⟨[.p (B (decide (a54 ≤ 3)))], [], ⟨[], ⟨rfl, trivial⟩, trivial, rfl⟩, rfl, rfl, rfl⟩
        · replace h := cF h c
          refine And.intro (fun c => absurd c (by decide)) (fun _ => ?_)
          refine And.intro (fun c => absurd c (by decide)) (fun _ => ?_)
          replace h := Option.some.inj h
          subst h
          exact ⟨[.p (B false)], [], ⟨[], ⟨rfl, trivial⟩, trivial, rfl⟩, rfl, rfl, rfl⟩
  · replace h := cT h c
    refine And.intro (fun c => absurd c (by decide)) (fun _ => ?_)
    refine And.intro (fun _ => ?_) (fun c => absurd c (by decide))
    refine And.intro (fun _ => ?_) (fun c => absurd c (by decide))
    refine .inl ?_
    replace h := Option.some.inj h
    subst h
    exact ⟨[.p (B false)], [], ⟨[], ⟨rfl, trivial⟩, trivial, rfl⟩, rfl, rfl, rfl⟩
def m_impl_BnfOK_j27 : Option Bool :=
  some true
def m_impl_BnfOK_j41 (v228 : Int) (rec38 : Int → Option Bool) : Option Bool :=
  rec38 (wr .i64 (v228 + 1))
def m_impl_BnfOK_l43 (a55 : gBnf) (v228 : Int) (rec38 : Int → Option Bool) (x572 : gProd) : Nat → Int → Option Bool
  | 0, _ => none
  | k43 + 1, v236 =>
    bif (decide (v236 < ((x572.right_.map I).length : Int))) then (
      (ix x572.right_ v236).bind fun x575 =>
      bif (decide (x575 < 0)) then (
        some false)
      else (
        bif (decide (x575 ≥ (wr .i64 (((a55.terms_.map gTerm.enc).length : Int) + ((a55.nons_.map S).length : Int))))) then (
          some false)
        else (
          (m_impl_BnfOK_l43 a55 v228 rec38 x572 k43) (wr .i64 (v236 + 1)))))
    else (
      m_impl_BnfOK_j41 v228 rec38)
def m_impl_BnfOK_j42 (n : Nat) (a55 : gBnf) (v228 : Int) (rec38 : Int → Option Bool) (x572 : gProd) : Option Bool :=
  m_impl_BnfOK_l43 a55 v228 rec38 x572 n 0
def m_impl_BnfOK_l38 (n : Nat) (a55 : gBnf) : Nat → Int → Option Bool
  | 0, _ => none
  | k38 + 1, v228 =>
    bif (decide (v228 < ((a55.prods_.map gProd.enc).length : Int))) then (
      (ix a55.prods_ v228).bind fun x572 =>
      bif (decide (x572.left_ < ((a55.terms_.map gTerm.enc).length : Int))) then (
        some false)
      else (
        bif (decide (x572.left_ ≥ (wr .i64 (((a55.terms_.map gTerm.enc).length : Int) + ((a55.nons_.map S).length : Int))))) then (
          some false)
        else (
          bif (decide (((x572.right_.map I).length : Int) > 12)) then (
            some false)
          else (
            bif (!decide (x572.label_ = ⟨#[]⟩)) then (
              (m_impl_nameOK n x572.label_).bind fun r428 =>
              bif (!r428) then (
                some false)
              else (
                (m_impl_levelOK n x572.level_ x572.assoc_).bind fun r429 =>
                bif (!r429) then (
                  some false)
                else (
                  m_impl_BnfOK_j42 n a55 v228 (m_impl_BnfOK_l38 n a55 k38) x572)))
            else (
              (m_impl_levelOK n x572.level_ x572.assoc_).bind fun r430 =>
              bif (!r430) then (
                some false)
              else (
                m_impl_BnfOK_j42 n a55 v228 (m_impl_BnfOK_l38 n a55 k38) x572))))))
    else (
      m_impl_BnfOK_j27)
def m_impl_BnfOK_j10 (n : Nat) (a55 : gBnf) : Option Bool :=
  m_impl_BnfOK_l38 n a55 n 0
def m_impl_BnfOK_j47 (v238 : Int) (v239 : List (ByteArray × Int)) (rec46 : Int → (List (ByteArray × Int)) → Option Bool) (x578 : ByteArray) : Option Bool :=
  rec46 (wr .i64 (v238 + 1)) (tput v239 x578 1)
def m_impl_BnfOK_l46 (n : Nat) (a55 : gBnf) : Nat → Int → (List (ByteArray × Int)) → Option Bool
  | 0, _, _ => none
  | k46 + 1, v238, v239 =>
    bif (decide (v238 < ((a55.nons_.map S).length : Int))) then (
      (ix a55.nons_ v238).bind fun x578 =>
      optc (tget v239 x578) (fun y18 =>
        bif (decide (y18 > 0)) then (
          some false)
        else (
          m_impl_BnfOK_j47 v238 v239 (m_impl_BnfOK_l46 n a55 k46) x578))
        (bif (decide ((0 : Int) > 0)) then (
          some false)
        else (
          m_impl_BnfOK_j47 v238 v239 (m_impl_BnfOK_l46 n a55 k46) x578)))
    else (
      m_impl_BnfOK_j10 n a55)
def m_impl_BnfOK_j5 (n : Nat) (a55 : gBnf) : Option Bool :=
  m_impl_BnfOK_l46 n a55 n 0 []
def m_impl_BnfOK_j51 (v242 : Int) (v243 : List (ByteArray × Int)) (rec50 : Int → (List (ByteArray × Int)) → Option Bool) (x581 : gTerm) : Option Bool :=
  rec50 (wr .i64 (v242 + 1)) (tput v243 x581.name_ 1)
def m_impl_BnfOK_l50 (n : Nat) (a55 : gBnf) : Nat → Int → (List (ByteArray × Int)) → Option Bool
  | 0, _, _ => none
  | k50 + 1, v242, v243 =>
    bif (decide (v242 < ((a55.terms_.map gTerm.enc).length : Int))) then (
      (ix a55.terms_ v242).bind fun x581 =>
      optc (tget v243 x581.name_) (fun y24 =>
        bif (decide (y24 > 0)) then (
          some false)
        else (
          (m_impl_levelOK n x581.level_ x581.assoc_).bind fun r441 =>
          bif (!r441) then (
            some false)
          else (
            m_impl_BnfOK_j51 v242 v243 (m_impl_BnfOK_l50 n a55 k50) x581)))
        (bif (decide ((0 : Int) > 0)) then (
          some false)
        else (
          (m_impl_levelOK n x581.level_ x581.assoc_).bind fun r442 =>
          bif (!r442) then (
            some false)
          else (
            m_impl_BnfOK_j51 v242 v243 (m_impl_BnfOK_l50 n a55 k50) x581))))
    else (
      m_impl_BnfOK_j5 n a55)
def m_impl_BnfOK (n : Nat) (a55 : gBnf) : Option Bool :=
  bif (decide (((a55.terms_.map gTerm.enc).length : Int) > 60)) then (
    some false)
  else (
    bif (decide (((a55.nons_.map S).length : Int) < 1)) then (
      some false)
    else (
      bif (decide (((a55.nons_.map S).length : Int) > 100)) then (
        some false)
      else (
        bif (decide (a55.own_ < 1)) then (
          some false)
        else (
          bif (decide (a55.own_ > ((a55.nons_.map S).length : Int))) then (
            some false)
          else (
            bif (decide (((a55.prods_.map gProd.enc).length : Int) > 120)) then (
              some false)
            else (
              m_impl_BnfOK_l50 n a55 n 0 []))))))
theorem c_impl_BnfOK (n : Nat) (a55 : gBnf) (r : Bool) (h : m_impl_BnfOK n a55 = some r) : FnP Try.prog 75 [a55.enc] [B r] := by
  unfold m_impl_BnfOK at h
  refine fn_introJ Try.func75 rfl rfl rfl ?_
  refine .inl ?_
  refine .inl ?_
  refine .inl ?_
  refine And.intro (fun c => ?_) (fun c => ?_)
  · replace h := cF h c
    refine And.intro (fun _ => ?_) (fun c => absurd c (by decide))
    refine And.intro (fun _ => ?_) (fun c => absurd c (by decide))
    refine And.intro (fun _ => ?_) (fun c => absurd c (by decide))
    refine And.intro (fun c => absurd c (by decide)) (fun _ => ?_)
    refine And.intro (fun c => ?_) (fun c => ?_)
    · replace h := cF h c
      refine And.intro (fun _ => ?_) (fun c => absurd c (by decide))
      refine And.intro (fun _ => ?_) (fun c => absurd c (by decide))
      refine And.intro (fun _ => ?_) (fun c => absurd c (by decide))
      refine And.intro (fun c => absurd c (by decide)) (fun _ => ?_)
      refine And.intro (fun c => ?_) (fun c => ?_)
      · replace h := cF h c
        refine And.intro (fun _ => ?_) (fun c => absurd c (by decide))
        refine And.intro (fun _ => ?_) (fun c => absurd c (by decide))
        refine And.intro (fun c => absurd c (by decide)) (fun _ => ?_)
        refine And.intro (fun c => ?_) (fun c => ?_)
        · replace h := cF h c
          refine And.intro (fun _ => ?_) (fun c => absurd c (by decide))
          refine And.intro (fun _ => ?_) (fun c => absurd c (by decide))
          refine And.intro (fun _ => ?_) (fun c => absurd c (by decide))
          refine And.intro (fun _ => ?_) (fun c => absurd c (by decide))
          refine And.intro (fun _ => ?_) (fun c => absurd c (by decide))
          refine And.intro (fun c => absurd c (by decide)) (fun _ => ?_)
          refine And.intro (fun c => ?_) (fun c => ?_)
          · replace h := cF h c
            refine And.intro (fun _ => ?_) (fun c => absurd c (by decide))
            refine And.intro (fun _ => ?_) (fun c => absurd c (by decide))
            refine And.intro (fun _ => ?_) (fun c => absurd c (by decide))
            refine And.intro (fun c => absurd c (by decide)) (fun _ => ?_)
            refine And.intro (fun c => ?_) (fun c => ?_)
            · replace h := cT h c
              refine .inl ?_
              replace h := Option.some.inj h
              subst h
              exact ⟨[.p (B false)], [], ⟨[], ⟨rfl, trivial⟩, trivial, rfl⟩, rfl, rfl, rfl⟩
            · replace h := cF h c
              refine .inl ?_
              refine .inr ⟨Unit, fun x => ([(1, .ptr 0 0)], [.box 34 [.p (.lst (a55.terms_.map gTerm.enc)), .p (.lst (a55.nons_.map S)), .p (I a55.own_), .p (.lst (a55.prods_.map gProd.enc))]]), fun x => m_impl_BnfOK_j5 n a55 = some r, ?_, ?_⟩
              · refine .inl ?_
                refine ⟨Int × (List (ByteArray × Int)), fun x => ([(1, .ptr 0 0), (3, .mp 1), (51, .p (.lst (a55.terms_.map gTerm.enc))), (52, .p (I ((a55.terms_.map gTerm.enc).length : Int))), (53, .p (I x.1))], [.box 34 [.p (.lst (a55.terms_.map gTerm.enc)), .p (.lst (a55.nons_.map S)), .p (I a55.own_), .p (.lst (a55.prods_.map gProd.enc))], .map 160 (x.2.map (mS I))]), fun x k => m_impl_BnfOK_l50 n a55 k x.1 x.2 = some r, ⟨(0, []), n, h, [], ⟨rfl, rfl, rfl, rfl, rfl, trivial⟩, ⟨⟨rfl, rfl, rfl, rfl, rfl, trivial⟩, rfl, trivial⟩, rfl⟩, ?_⟩
                rintro ⟨v242, v243⟩ (_ | k50) h
                · exact ns h
                unfold m_impl_BnfOK_l50 at h
                refine .inl ?_
                refine .inl ?_
                refine And.intro (fun c => ?_) (fun c => ?_)
                · replace h := cT h c
                  refine .inl ?_
                  refine .inl ?_
                  obtain ⟨x581, hx581, h⟩ := bsm h
                  refine And.intro (ix0 hx581) (Exists.intro _ (And.intro (gm (ixg hx581)) (And.intro rfl ?_)))
                  refine .inr ⟨Unit, fun x => ([(1, .ptr 0 0), (3, .mp 1), (5, .ptr 2 0), (51, .p (.lst (a55.terms_.map gTerm.enc))), (52, .p (I ((a55.terms_.map gTerm.enc).length : Int))), (53, .p (I v242))], [.box 34 [.p (.lst (a55.terms_.map gTerm.enc)), .p (.lst (a55.nons_.map S)), .p (I a55.own_), .p (.lst (a55.prods_.map gProd.enc))], .map 160 (v243.map (mS I)), .box 130 [.p (S x581.name_), .p (I x581.level_), .p (I x581.assoc_)]]), fun x => m_impl_BnfOK_j51 v242 v243 (m_impl_BnfOK_l50 n a55 k50) x581 = some r, ?_, ?_⟩
                  · refine .inl ?_
                    refine And.intro ⟨(keysS _), trivial⟩ (And.intro (fun y hy => ?_) (fun hy => ?_))
                    · obtain ⟨y24, hy24, rfl⟩ := mgS hy
                      replace h := ocs h hy24
                      refine And.intro (fun c => ?_) (fun c => ?_)
                      · replace h := cF h c
                        refine And.intro (fun _ => ?_) (fun c => absurd c (by decide))
                        refine And.intro (fun _ => ?_) (fun c => absurd c (by decide))
                        refine And.intro (fun _ => ?_) (fun c => absurd c (by decide))
                        refine And.intro (fun _ => ?_) (fun c => absurd c (by decide))
                        obtain ⟨r441, hr441, h⟩ := bsm h
                        refine callA (c_impl_levelOK n x581.level_ x581.assoc_ _ hr441) ?_
                        refine And.intro (fun _ => ?_) (fun c => absurd c (by decide))
                        refine And.intro (fun c => absurd c (by decide)) (fun _ => ?_)
                        refine And.intro (fun c => ?_) (fun c => ?_)
                        · replace h := cT h c
                          refine .inl ?_
                          replace h := Option.some.inj h
                          subst h
                          exact ⟨[.p (B false)], [], ⟨[], ⟨rfl, trivial⟩, trivial, rfl⟩, rfl, rfl, rfl⟩
                        · replace h := cF h c
                          exact ⟨(), h, [], ⟨rfl, rfl, rfl, rfl, rfl, rfl, trivial⟩, ⟨⟨rfl, rfl, rfl, rfl, rfl, trivial⟩, rfl, ⟨rfl, rfl, rfl, rfl, trivial⟩, trivial⟩, rfl⟩
                      · replace h := cT h c
                        refine And.intro (fun c => absurd c (by decide)) (fun _ => ?_)
                        refine And.intro (fun c => absurd c (by decide)) (fun _ => ?_)
                        refine And.intro (fun c => absurd c (by decide)) (fun _ => ?_)
                        refine And.intro (fun c => absurd c (by decide)) (fun _ => ?_)
                        refine And.intro (fun c => absurd c (by decide)) (fun _ => ?_)
                        refine And.intro (fun _ => ?_) (fun c => absurd c (by decide))
                        refine And.intro (fun _ => ?_) (fun c => absurd c (by decide))
                        refine .inl ?_
                        replace h := Option.some.inj h
                        subst h
                        exact ⟨[.p (B false)], [], ⟨[], ⟨rfl, trivial⟩, trivial, rfl⟩, rfl, rfl, rfl⟩
                    · replace h := ocn h (mgSn hy)
                      refine And.intro (fun c => ?_) (fun c => ?_)
                      · replace h := cF h c
                        refine And.intro (fun _ => ?_) (fun c => absurd c (by decide))
                        refine And.intro (fun _ => ?_) (fun c => absurd c (by decide))
                        refine And.intro (fun _ => ?_) (fun c => absurd c (by decide))
                        refine And.intro (fun _ => ?_) (fun c => absurd c (by decide))
                        obtain ⟨r442, hr442, h⟩ := bsm h
                        refine callA (c_impl_levelOK n x581.level_ x581.assoc_ _ hr442) ?_
                        refine And.intro (fun _ => ?_) (fun c => absurd c (by decide))
                        refine And.intro (fun c => absurd c (by decide)) (fun _ => ?_)
                        refine And.intro (fun c => ?_) (fun c => ?_)
                        · replace h := cT h c
                          refine .inl ?_
                          replace h := Option.some.inj h
                          subst h
                          exact ⟨[.p (B false)], [], ⟨[], ⟨rfl, trivial⟩, trivial, rfl⟩, rfl, rfl, rfl⟩
                        · replace h := cF h c
                          exact ⟨(), h, [], ⟨rfl, rfl, rfl, rfl, rfl, rfl, trivial⟩, ⟨⟨rfl, rfl, rfl, rfl, rfl, trivial⟩, rfl, ⟨rfl, rfl, rfl, rfl, trivial⟩, trivial⟩, rfl⟩
                      · replace h := cT h c
                        refine And.intro (fun c => absurd c (by decide)) (fun _ => ?_)
                        refine And.intro (fun c => absurd c (by decide)) (fun _ => ?_)
                        refine And.intro (fun c => absurd c (by decide)) (fun _ => ?_)
                        refine And.intro (fun c => absurd c (by decide)) (fun _ => ?_)
                        refine And.intro (fun c => absurd c (by decide)) (fun _ => ?_)
                        refine And.intro (fun _ => ?_) (fun c => absurd c (by decide))
                        refine And.intro (fun _ => ?_) (fun c => absurd c (by decide))
                        refine .inl ?_
                        replace h := Option.some.inj h
                        subst h
                        exact ⟨[.p (B false)], [], ⟨[], ⟨rfl, trivial⟩, trivial, rfl⟩, rfl, rfl, rfl⟩
                  · rintro _ h
                    unfold m_impl_BnfOK_j51 at h
                    refine And.intro ⟨(keysS _), trivial⟩ ?_
                    exact ⟨((wr .i64 (v242 + 1)), (tput v243 x581.name_ 1)), k50, h, Nat.lt_succ_self _, [], ⟨rfl, rfl, rfl, rfl, rfl, trivial⟩, ⟨⟨rfl, rfl, rfl, rfl, rfl, trivial⟩, (congrArg (Bk.map 160) (show (tput v243 x581.name_ 1).map (mS I) = mput (v243.map (mS I)) (.string x581.name_) (I 1) by simp)), trivial⟩, rfl⟩
                · replace h := cF h c
                  exact ⟨(), h, [], ⟨rfl, trivial⟩, ⟨⟨rfl, rfl, rfl, rfl, rfl, trivial⟩, trivial⟩, rfl⟩
              · rintro _ h
                unfold m_impl_BnfOK_j5 at h
                refine .inl ?_
                refine .inr ⟨Unit, fun x => ([(1, .ptr 0 0)], [.box 34 [.p (.lst (a55.terms_.map gTerm.enc)), .p (.lst (a55.nons_.map S)), .p (I a55.own_), .p (.lst (a55.prods_.map gProd.enc))]]), fun x => m_impl_BnfOK_j10 n a55 = some r, ?_, ?_⟩
                · refine .inl ?_
                  refine ⟨Int × (List (ByteArray × Int)), fun x => ([(1, .ptr 0 0), (6, .mp 1), (76, .p (.lst (a55.nons_.map S))), (77, .p (I ((a55.nons_.map S).length : Int))), (78, .p (I x.1))], [.box 34 [.p (.lst (a55.terms_.map gTerm.enc)), .p (.lst (a55.nons_.map S)), .p (I a55.own_), .p (.lst (a55.prods_.map gProd.enc))], .map 160 (x.2.map (mS I))]), fun x k => m_impl_BnfOK_l46 n a55 k x.1 x.2 = some r, ⟨(0, []), n, h, [], ⟨rfl, rfl, rfl, rfl, rfl, trivial⟩, ⟨⟨rfl, rfl, rfl, rfl, rfl, trivial⟩, rfl, trivial⟩, rfl⟩, ?_⟩
                  rintro ⟨v238, v239⟩ (_ | k46) h
                  · exact ns h
                  unfold m_impl_BnfOK_l46 at h
                  refine .inl ?_
                  refine .inl ?_
                  refine And.intro (fun c => ?_) (fun c => ?_)
                  · replace h := cT h c
                    refine .inl ?_
                    refine .inl ?_
                    obtain ⟨x578, hx578, h⟩ := bsm h
                    refine And.intro (ix0 hx578) (Exists.intro _ (And.intro (gm (ixg hx578)) (And.intro rfl ?_)))
                    refine .inr ⟨Unit, fun x => ([(1, .ptr 0 0), (6, .mp 1), (8, .p (S x578)), (76, .p (.lst (a55.nons_.map S))), (77, .p (I ((a55.nons_.map S).length : Int))), (78, .p (I v238))], [.box 34 [.p (.lst (a55.terms_.map gTerm.enc)), .p (.lst (a55.nons_.map S)), .p (I a55.own_), .p (.lst (a55.prods_.map gProd.enc))], .map 160 (v239.map (mS I))]), fun x => m_impl_BnfOK_j47 v238 v239 (m_impl_BnfOK_l46 n a55 k46) x578 = some r, ?_, ?_⟩
                    · refine .inl ?_
                      refine And.intro ⟨(keysS _), trivial⟩ (And.intro (fun y hy => ?_) (fun hy => ?_))
                      · obtain ⟨y18, hy18, rfl⟩ := mgS hy
                        replace h := ocs h hy18
                        refine And.intro (fun c => ?_) (fun c => ?_)
                        · replace h := cT h c
                          refine .inl ?_
                          replace h := Option.some.inj h
                          subst h
                          exact ⟨[.p (B false)], [], ⟨[], ⟨rfl, trivial⟩, trivial, rfl⟩, rfl, rfl, rfl⟩
                        · replace h := cF h c
                          exact ⟨(), h, [], ⟨rfl, rfl, rfl, rfl, rfl, rfl, trivial⟩, ⟨⟨rfl, rfl, rfl, rfl, rfl, trivial⟩, rfl, trivial⟩, rfl⟩
                      · replace h := ocn h (mgSn hy)
                        refine And.intro (fun c => ?_) (fun c => ?_)
                        · replace h := cT h c
                          refine .inl ?_
                          replace h := Option.some.inj h
                          subst h
                          exact ⟨[.p (B false)], [], ⟨[], ⟨rfl, trivial⟩, trivial, rfl⟩, rfl, rfl, rfl⟩
                        · replace h := cF h c
                          exact ⟨(), h, [], ⟨rfl, rfl, rfl, rfl, rfl, rfl, trivial⟩, ⟨⟨rfl, rfl, rfl, rfl, rfl, trivial⟩, rfl, trivial⟩, rfl⟩
                    · rintro _ h
                      unfold m_impl_BnfOK_j47 at h
                      refine And.intro ⟨(keysS _), trivial⟩ ?_
                      exact ⟨((wr .i64 (v238 + 1)), (tput v239 x578 1)), k46, h, Nat.lt_succ_self _, [], ⟨rfl, rfl, rfl, rfl, rfl, trivial⟩, ⟨⟨rfl, rfl, rfl, rfl, rfl, trivial⟩, (congrArg (Bk.map 160) (show (tput v239 x578 1).map (mS I) = mput (v239.map (mS I)) (.string x578) (I 1) by simp)), trivial⟩, rfl⟩
                  · replace h := cF h c
                    exact ⟨(), h, [], ⟨rfl, trivial⟩, ⟨⟨rfl, rfl, rfl, rfl, rfl, trivial⟩, trivial⟩, rfl⟩
                · rintro _ h
                  unfold m_impl_BnfOK_j10 at h
                  refine .inl ?_
                  refine .inr ⟨Unit, fun x => ([], []), fun x => m_impl_BnfOK_j27 = some r, ?_, ?_⟩
                  · refine .inl ?_
                    refine ⟨Int, fun x => ([(1, .ptr 0 0), (9, .p (I (wr .i64 (((a55.terms_.map gTerm.enc).length : Int) + ((a55.nons_.map S).length : Int))))), (97, .p (.lst (a55.prods_.map gProd.enc))), (98, .p (I ((a55.prods_.map gProd.enc).length : Int))), (99, .p (I x))], [.box 34 [.p (.lst (a55.terms_.map gTerm.enc)), .p (.lst (a55.nons_.map S)), .p (I a55.own_), .p (.lst (a55.prods_.map gProd.enc))]]), fun x k => m_impl_BnfOK_l38 n a55 k x = some r, ⟨0, n, h, [], ⟨rfl, rfl, rfl, rfl, rfl, trivial⟩, ⟨⟨rfl, rfl, rfl, rfl, rfl, trivial⟩, trivial⟩, rfl⟩, ?_⟩
                    rintro v228 (_ | k38) h
                    · exact ns h
                    unfold m_impl_BnfOK_l38 at h
                    refine .inl ?_
                    refine .inl ?_
                    refine And.intro (fun c => ?_) (fun c => ?_)
                    · replace h := cT h c
                      refine .inr ⟨Unit, fun x => ([(1, .ptr 0 0), (9, .p (I (wr .i64 (((a55.terms_.map gTerm.enc).length : Int) + ((a55.nons_.map S).length : Int))))), (97, .p (.lst (a55.prods_.map gProd.enc))), (98, .p (I ((a55.prods_.map gProd.enc).length : Int))), (99, .p (I v228))], [.box 34 [.p (.lst (a55.terms_.map gTerm.enc)), .p (.lst (a55.nons_.map S)), .p (I a55.own_), .p (.lst (a55.prods_.map gProd.enc))]]), fun x => m_impl_BnfOK_j41 v228 (m_impl_BnfOK_l38 n a55 k38) = some r, ?_, ?_⟩
                      · refine .inl ?_
                        obtain ⟨x572, hx572, h⟩ := bsm h
                        refine And.intro (ix0 hx572) (Exists.intro _ (And.intro (gm (ixg hx572)) (And.intro rfl ?_)))
                        refine .inr ⟨Unit, fun x => ([(1, .ptr 0 0), (9, .p (I (wr .i64 (((a55.terms_.map gTerm.enc).length : Int) + ((a55.nons_.map S).length : Int))))), (11, .ptr 1 0), (97, .p (.lst (a55.prods_.map gProd.enc))), (98, .p (I ((a55.prods_.map gProd.enc).length : Int))), (99, .p (I v228))], [.box 34 [.p (.lst (a55.terms_.map gTerm.enc)), .p (.lst (a55.nons_.map S)), .p (I a55.own_), .p (.lst (a55.prods_.map gProd.enc))], .box 112 [.p (I x572.left_), .p (.lst (x572.right_.map I)), .p (S x572.label_), .p (I x572.level_), .p (I x572.assoc_)]]), fun x => m_impl_BnfOK_j42 n a55 v228 (m_impl_BnfOK_l38 n a55 k38) x572 = some r, ?_, ?_⟩
                        · refine .inl ?_
                          refine And.intro (fun c => ?_) (fun c => ?_)
                          · replace h := cF h c
                            refine And.intro (fun _ => ?_) (fun c => absurd c (by decide))
                            refine And.intro (fun _ => ?_) (fun c => absurd c (by decide))
                            refine And.intro (fun _ => ?_) (fun c => absurd c (by decide))
                            refine And.intro (fun c => absurd c (by decide)) (fun _ => ?_)
                            refine And.intro (fun c => ?_) (fun c => ?_)
                            · replace h := cF h c
                              refine And.intro (fun _ => ?_) (fun c => absurd c (by decide))
                              refine And.intro (fun _ => ?_) (fun c => absurd c (by decide))
                              refine And.intro (fun _ => ?_) (fun c => absurd c (by decide))
                              refine And.intro (fun c => absurd c (by decide)) (fun _ => ?_)
                              refine And.intro (fun c => ?_) (fun c => ?_)
                              · replace h := cF h c
                                refine And.intro (fun _ => ?_) (fun c => absurd c (by decide))
                                refine And.intro (fun _ => ?_) (fun c => absurd c (by decide))
                                refine And.intro (fun _ => ?_) (fun c => absurd c (by decide))
                                refine And.intro (fun c => ?_) (fun c => ?_)
                                · replace h := cT h c
                                  refine And.intro (fun _ => ?_) (fun c => absurd c (by decide))
                                  refine And.intro (fun _ => ?_) (fun c => absurd c (by decide))
                                  obtain ⟨r428, hr428, h⟩ := bsm h
                                  refine callA (c_impl_nameOK n x572.label_ _ hr428) ?_
                                  refine And.intro (fun _ => ?_) (fun c => absurd c (by decide))
                                  refine And.intro (fun _ => ?_) (fun c => absurd c (by decide))
                                  refine And.intro (fun _ => ?_) (fun c => absurd c (by decide))
                                  refine And.intro (fun c => absurd c (by decide)) (fun _ => ?_)
                                  refine And.intro (fun c => ?_) (fun c => ?_)
                                  · replace h := cF h c
                                    refine And.intro (fun _ => ?_) (fun c => absurd c (by decide))
                                    refine And.intro (fun _ => ?_) (fun c => absurd c (by decide))
                                    refine And.intro (fun _ => ?_) (fun c => absurd c (by decide))
                                    refine And.intro (fun _ => ?_) (fun c => absurd c (by decide))
                                    obtain ⟨r429, hr429, h⟩ := bsm h
                                    refine callA (c_impl_levelOK n x572.level_ x572.assoc_ _ hr429) ?_
                                    refine And.intro (fun _ => ?_) (fun c => absurd c (by decide))
                                    refine And.intro (fun c => absurd c (by decide)) (fun _ => ?_)
                                    refine And.intro (fun c => ?_) (fun c => ?_)
                                    · replace h := cT h c
                                      refine .inl ?_
                                      replace h := Option.some.inj h
                                      subst h
                                      exact ⟨[.p (B false)], [], ⟨[], ⟨rfl, trivial⟩, trivial, rfl⟩, rfl, rfl, rfl⟩
                                    · replace h := cF h c
                                      exact ⟨(), h, [], ⟨rfl, rfl, rfl, rfl, rfl, rfl, trivial⟩, ⟨⟨rfl, rfl, rfl, rfl, rfl, trivial⟩, ⟨rfl, rfl, rfl, rfl, rfl, rfl, trivial⟩, trivial⟩, rfl⟩
                                  · replace h := cT h c
                                    refine And.intro (fun c => absurd c (by decide)) (fun _ => ?_)
                                    refine And.intro (fun c => absurd c (by decide)) (fun _ => ?_)
                                    refine And.intro (fun c => absurd c (by decide)) (fun _ => ?_)
                                    refine And.intro (fun c => absurd c (by decide)) (fun _ => ?_)
                                    refine And.intro (fun c => absurd c (by decide)) (fun _ => ?_)
                                    refine And.intro (fun _ => ?_) (fun c => absurd c (by decide))
                                    refine And.intro (fun _ => ?_) (fun c => absurd c (by decide))
                                    refine .inl ?_
                                    replace h := Option.some.inj h
                                    subst h
                                    exact ⟨[.p (B false)], [], ⟨[], ⟨rfl, trivial⟩, trivial, rfl⟩, rfl, rfl, rfl⟩
                                · replace h := cF h c
                                  refine And.intro (fun c => absurd c (by decide)) (fun _ => ?_)
                                  refine And.intro (fun c => absurd c (by decide)) (fun _ => ?_)
                                  refine And.intro (fun c => absurd c (by decide)) (fun _ => ?_)
                                  refine And.intro (fun _ => ?_) (fun c => absurd c (by decide))
                                  refine And.intro (fun c => absurd c (by decide)) (fun _ => ?_)
                                  refine And.intro (fun c => absurd c (by decide)) (fun _ => ?_)
                                  refine And.intro (fun _ => ?_) (fun c => absurd c (by decide))
                                  refine And.intro (fun _ => ?_) (fun c => absurd c (by decide))
                                  refine And.intro (fun _ => ?_) (fun c => absurd c (by decide))
                                  refine And.intro (fun _ => ?_) (fun c => absurd c (by decide))
                                  refine And.intro (fun _ => ?_) (fun c => absurd c (by decide))
                                  obtain ⟨r430, hr430, h⟩ := bsm h
                                  refine callA (c_impl_levelOK n x572.level_ x572.assoc_ _ hr430) ?_
                                  refine And.intro (fun _ => ?_) (fun c => absurd c (by decide))
                                  refine And.intro (fun c => absurd c (by decide)) (fun _ => ?_)
                                  refine And.intro (fun c => ?_) (fun c => ?_)
                                  · replace h := cT h c
                                    refine .inl ?_
                                    replace h := Option.some.inj h
                                    subst h
                                    exact ⟨[.p (B false)], [], ⟨[], ⟨rfl, trivial⟩, trivial, rfl⟩, rfl, rfl, rfl⟩
                                  · replace h := cF h c
                                    exact ⟨(), h, [], ⟨rfl, rfl, rfl, rfl, rfl, rfl, trivial⟩, ⟨⟨rfl, rfl, rfl, rfl, rfl, trivial⟩, ⟨rfl, rfl, rfl, rfl, rfl, rfl, trivial⟩, trivial⟩, rfl⟩
                              · replace h := cT h c
                                refine And.intro (fun c => absurd c (by decide)) (fun _ => ?_)
                                refine And.intro (fun c => absurd c (by decide)) (fun _ => ?_)
                                refine And.intro (fun c => absurd c (by decide)) (fun _ => ?_)
                                refine And.intro (fun c => absurd c (by decide)) (fun _ => ?_)
                                refine And.intro (fun _ => ?_) (fun c => absurd c (by decide))
                                refine And.intro (fun c => absurd c (by decide)) (fun _ => ?_)
                                refine And.intro (fun c => absurd c (by decide)) (fun _ => ?_)
                                refine And.intro (fun c => absurd c (by decide)) (fun _ => ?_)
                                refine And.intro (fun c => absurd c (by decide)) (fun _ => ?_)
                                refine And.intro (fun c => absurd c (by decide)) (fun _ => ?_)
                                refine And.intro (fun c => absurd c (by decide)) (fun _ => ?_)
                                refine And.intro (fun _ => ?_) (fun c => absurd c (by decide))
                                refine And.intro (fun _ => ?_) (fun c => absurd c (by decide))
                                refine .inl ?_
                                replace h := Option.some.inj h
                                subst h
                                exact ⟨[.p (B false)], [], ⟨[], ⟨rfl, trivial⟩, trivial, rfl⟩, rfl, rfl, rfl⟩
                            · replace h := cT h c
                              refine And.intro (fun c => absurd c (by decide)) (fun _ => ?_)
                              refine And.intro (fun c => absurd c (by decide)) (fun _ => ?_)
                              refine And.intro (fun c => absurd c (by decide)) (fun _ => ?_)
                              refine And.intro (fun _ => ?_) (fun c => absurd c (by decide))
                              refine And.intro (fun c => absurd c (by decide)) (fun _ => ?_)
                              refine And.intro (fun c => absurd c (by decide)) (fun _ => ?_)
                              refine And.intro (fun c => absurd c (by decide)) (fun _ => ?_)
                              refine And.intro (fun c => absurd c (by decide)) (fun _ => ?_)
                              refine And.intro (fun c => absurd c (by decide)) (fun _ => ?_)
                              refine And.intro (fun _ => ?_) (fun c => absurd c (by decide))
                              refine And.intro (fun c => absurd c (by decide)) (fun _ => ?_)
                              refine And.intro (fun c => absurd c (by decide)) (fun _ => ?_)
                              refine And.intro (fun c => absurd c (by decide)) (fun _ => ?_)
                              refine And.intro (fun c => absurd c (by decide)) (fun _ => ?_)
                              refine And.intro (fun c => absurd c (by decide)) (fun _ => ?_)
                              refine And.intro (fun c => absurd c (by decide)) (fun _ => ?_)
                              refine And.intro (fun _ => ?_) (fun c => absurd c (by decide))
                              refine And.intro (fun _ => ?_) (fun c => absurd c (by decide))
                              refine .inl ?_
                              replace h := Option.some.inj h
                              subst h
                              exact ⟨[.p (B false)], [], ⟨[], ⟨rfl, trivial⟩, trivial, rfl⟩, rfl, rfl, rfl⟩
                          · replace h := cT h c
                            refine And.intro (fun c => absurd c (by decide)) (fun _ => ?_)
                            refine And.intro (fun c => absurd c (by decide)) (fun _ => ?_)
                            refine And.intro (fun c => absurd c (by decide)) (fun _ => ?_)
                            refine And.intro (fun _ => ?_) (fun c => absurd c (by decide))
                            refine And.intro (fun c => absurd c (by decide)) (fun _ => ?_)
                            refine And.intro (fun c => absurd c (by decide)) (fun _ => ?_)
                            refine And.intro (fun c => absurd c (by decide)) (fun _ => ?_)
                            refine And.intro (fun c => absurd c (by decide)) (fun _ => ?_)
                            refine And.intro (fun _ => ?_) (fun c => absurd c (by decide))
                            refine And.intro (fun c => absurd c (by decide)) (fun _ => ?_)
                            refine And.intro (fun c => absurd c (by decide)) (fun _ => ?_)
                            refine And.intro (fun c => absurd c (by decide)) (fun _ => ?_)
                            refine And.intro (fun c => absurd c (by decide)) (fun _ => ?_)
                            refine And.intro (fun c => absurd c (by decide)) (fun _ => ?_)
                            refine And.intro (fun _ => ?_) (fun c => absurd c (by decide))
                            refine And.intro (fun c => absurd c (by decide)) (fun _ => ?_)
                            refine And.intro (fun c => absurd c (by decide)) (fun _ => ?_)
                            refine And.intro (fun c => absurd c (by decide)) (fun _ => ?_)
                            refine And.intro (fun c => absurd c (by decide)) (fun _ => ?_)
                            refine And.intro (fun c => absurd c (by decide)) (fun _ => ?_)
                            refine And.intro (fun c => absurd c (by decide)) (fun _ => ?_)
                            refine And.intro (fun _ => ?_) (fun c => absurd c (by decide))
                            refine And.intro (fun _ => ?_) (fun c => absurd c (by decide))
                            refine .inl ?_
                            replace h := Option.some.inj h
                            subst h
                            exact ⟨[.p (B false)], [], ⟨[], ⟨rfl, trivial⟩, trivial, rfl⟩, rfl, rfl, rfl⟩
                        · rintro _ h
                          unfold m_impl_BnfOK_j42 at h
                          refine .inl ?_
                          refine ⟨Int, fun x => ([(1, .ptr 0 0), (9, .p (I (wr .i64 (((a55.terms_.map gTerm.enc).length : Int) + ((a55.nons_.map S).length : Int))))), (97, .p (.lst (a55.prods_.map gProd.enc))), (98, .p (I ((a55.prods_.map gProd.enc).length : Int))), (99, .p (I v228)), (141, .p (.lst (x572.right_.map I))), (142, .p (I ((x572.right_.map I).length : Int))), (143, .p (I x))], [.box 34 [.p (.lst (a55.terms_.map gTerm.enc)), .p (.lst (a55.nons_.map S)), .p (I a55.own_), .p (.lst (a55.prods_.map gProd.enc))]]), fun x k => m_impl_BnfOK_l43 a55 v228 (m_impl_BnfOK_l38 n a55 k38) x572 k x = some r, ⟨0, n, h, [], ⟨rfl, rfl, rfl, rfl, rfl, rfl, rfl, rfl, trivial⟩, ⟨⟨rfl, rfl, rfl, rfl, rfl, trivial⟩, trivial⟩, rfl⟩, ?_⟩
                          rintro v236 (_ | k43) h
                          · exact ns h
                          unfold m_impl_BnfOK_l43 at h
                          refine .inl ?_
                          refine .inl ?_
                          refine And.intro (fun c => ?_) (fun c => ?_)
                          · replace h := cT h c
                            refine .inl ?_
                            refine .inl ?_
                            obtain ⟨x575, hx575, h⟩ := bsm h
                            refine And.intro (ix0 hx575) (Exists.intro _ (And.intro (gm (ixg hx575)) (And.intro rfl ?_)))
                            refine .inl ?_
                            refine And.intro (fun c => ?_) (fun c => ?_)
                            · replace h := cF h c
                              refine And.intro (fun _ => ?_) (fun c => absurd c (by decide))
                              refine And.intro (fun _ => ?_) (fun c => absurd c (by decide))
                              refine And.intro (fun c => absurd c (by decide)) (fun _ => ?_)
                              refine And.intro (fun c => ?_) (fun c => ?_)
                              · replace h := cT h c
                                refine .inl ?_
                                replace h := Option.some.inj h
                                subst h
                                exact ⟨[.p (B false)], [], ⟨[], ⟨rfl, trivial⟩, trivial, rfl⟩, rfl, rfl, rfl⟩
                              · replace h := cF h c
                                exact ⟨(wr .i64 (v236 + 1)), k43, h, Nat.lt_succ_self _, [], ⟨rfl, rfl, rfl, rfl, rfl, rfl, rfl, rfl, trivial⟩, ⟨⟨rfl, rfl, rfl, rfl, rfl, trivial⟩, trivial⟩, rfl⟩
                            · replace h := cT h c
                              refine And.intro (fun c => absurd c (by decide)) (fun _ => ?_)
                              refine And.intro (fun c => absurd c (by decide)) (fun _ => ?_)
                              refine And.intro (fun _ => ?_) (fun c => absurd c (by decide))
                              refine And.intro (fun _ => ?_) (fun c => absurd c (by decide))
                              refine .inl ?_
                              replace h := Option.some.inj h
                              subst h
                              exact ⟨[.p (B false)], [], ⟨[], ⟨rfl, trivial⟩, trivial, rfl⟩, rfl, rfl, rfl⟩
                          · replace h := cF h c
                            exact ⟨(), h, [], ⟨rfl, rfl, rfl, rfl, rfl, trivial⟩, ⟨⟨rfl, rfl, rfl, rfl, rfl, trivial⟩, trivial⟩, rfl⟩
                      · rintro _ h
                        unfold m_impl_BnfOK_j41 at h
                        exact ⟨(wr .i64 (v228 + 1)), k38, h, Nat.lt_succ_self _, [], ⟨rfl, rfl, rfl, rfl, rfl, trivial⟩, ⟨⟨rfl, rfl, rfl, rfl, rfl, trivial⟩, trivial⟩, rfl⟩
                    · replace h := cF h c
                      exact ⟨(), h, [], trivial, trivial, rfl⟩
                  · rintro _ h
                    unfold m_impl_BnfOK_j27 at h
                    refine .inl ?_
                    replace h := Option.some.inj h
                    subst h
                    exact ⟨[.p (B true)], [], ⟨[], ⟨rfl, trivial⟩, trivial, rfl⟩, rfl, rfl, rfl⟩
          · replace h := cT h c
            refine And.intro (fun c => absurd c (by decide)) (fun _ => ?_)
            refine And.intro (fun c => absurd c (by decide)) (fun _ => ?_)
            refine And.intro (fun c => absurd c (by decide)) (fun _ => ?_)
            refine And.intro (fun _ => ?_) (fun c => absurd c (by decide))
            refine And.intro (fun _ => ?_) (fun c => absurd c (by decide))
            refine .inl ?_
            replace h := Option.some.inj h
            subst h
            exact ⟨[.p (B false)], [], ⟨[], ⟨rfl, trivial⟩, trivial, rfl⟩, rfl, rfl, rfl⟩
        · replace h := cT h c
          refine And.intro (fun c => absurd c (by decide)) (fun _ => ?_)
          refine And.intro (fun c => absurd c (by decide)) (fun _ => ?_)
          refine And.intro (fun c => absurd c (by decide)) (fun _ => ?_)
          refine And.intro (fun c => absurd c (by decide)) (fun _ => ?_)
          refine And.intro (fun c => absurd c (by decide)) (fun _ => ?_)
          refine And.intro (fun _ => ?_) (fun c => absurd c (by decide))
          refine And.intro (fun c => absurd c (by decide)) (fun _ => ?_)
          refine And.intro (fun c => absurd c (by decide)) (fun _ => ?_)
          refine And.intro (fun c => absurd c (by decide)) (fun _ => ?_)
          refine And.intro (fun c => absurd c (by decide)) (fun _ => ?_)
          refine And.intro (fun _ => ?_) (fun c => absurd c (by decide))
          refine And.intro (fun _ => ?_) (fun c => absurd c (by decide))
          refine .inl ?_
          replace h := Option.some.inj h
          subst h
          exact ⟨[.p (B false)], [], ⟨[], ⟨rfl, trivial⟩, trivial, rfl⟩, rfl, rfl, rfl⟩
      · replace h := cT h c
        refine And.intro (fun c => absurd c (by decide)) (fun _ => ?_)
        refine And.intro (fun c => absurd c (by decide)) (fun _ => ?_)
        refine And.intro (fun _ => ?_) (fun c => absurd c (by decide))
        refine And.intro (fun c => absurd c (by decide)) (fun _ => ?_)
        refine And.intro (fun c => absurd c (by decide)) (fun _ => ?_)
        refine And.intro (fun c => absurd c (by decide)) (fun _ => ?_)
        refine And.intro (fun c => absurd c (by decide)) (fun _ => ?_)
        refine And.intro (fun c => absurd c (by decide)) (fun _ => ?_)
        refine And.intro (fun c => absurd c (by decide)) (fun _ => ?_)
        refine And.intro (fun _ => ?_) (fun c => absurd c (by decide))
        refine And.intro (fun c => absurd c (by decide)) (fun _ => ?_)
        refine And.intro (fun c => absurd c (by decide)) (fun _ => ?_)
        refine And.intro (fun c => absurd c (by decide)) (fun _ => ?_)
        refine And.intro (fun c => absurd c (by decide)) (fun _ => ?_)
        refine And.intro (fun _ => ?_) (fun c => absurd c (by decide))
        refine And.intro (fun _ => ?_) (fun c => absurd c (by decide))
        refine .inl ?_
        replace h := Option.some.inj h
        subst h
        exact ⟨[.p (B false)], [], ⟨[], ⟨rfl, trivial⟩, trivial, rfl⟩, rfl, rfl, rfl⟩
    · replace h := cT h c
      refine And.intro (fun c => absurd c (by decide)) (fun _ => ?_)
      refine And.intro (fun c => absurd c (by decide)) (fun _ => ?_)
      refine And.intro (fun c => absurd c (by decide)) (fun _ => ?_)
      refine And.intro (fun _ => ?_) (fun c => absurd c (by decide))
      refine And.intro (fun c => absurd c (by decide)) (fun _ => ?_)
      refine And.intro (fun c => absurd c (by decide)) (fun _ => ?_)
      refine And.intro (fun c => absurd c (by decide)) (fun _ => ?_)
      refine And.intro (fun _ => ?_) (fun c => absurd c (by decide))
      refine And.intro (fun c => absurd c (by decide)) (fun _ => ?_)
      refine And.intro (fun c => absurd c (by decide)) (fun _ => ?_)
      refine And.intro (fun c => absurd c (by decide)) (fun _ => ?_)
      refine And.intro (fun c => absurd c (by decide)) (fun _ => ?_)
      refine And.intro (fun c => absurd c (by decide)) (fun _ => ?_)
      refine And.intro (fun c => absurd c (by decide)) (fun _ => ?_)
      refine And.intro (fun _ => ?_) (fun c => absurd c (by decide))
      refine And.intro (fun c => absurd c (by decide)) (fun _ => ?_)
      refine And.intro (fun c => absurd c (by decide)) (fun _ => ?_)
      refine And.intro (fun c => absurd c (by decide)) (fun _ => ?_)
      refine And.intro (fun c => absurd c (by decide)) (fun _ => ?_)
      refine And.intro (fun _ => ?_) (fun c => absurd c (by decide))
      refine And.intro (fun _ => ?_) (fun c => absurd c (by decide))
      refine .inl ?_
      replace h := Option.some.inj h
      subst h
      exact ⟨[.p (B false)], [], ⟨[], ⟨rfl, trivial⟩, trivial, rfl⟩, rfl, rfl, rfl⟩
  · replace h := cT h c
    refine And.intro (fun c => absurd c (by decide)) (fun _ => ?_)
    refine And.intro (fun c => absurd c (by decide)) (fun _ => ?_)
    refine And.intro (fun c => absurd c (by decide)) (fun _ => ?_)
    refine And.intro (fun _ => ?_) (fun c => absurd c (by decide))
    refine And.intro (fun c => absurd c (by decide)) (fun _ => ?_)
    refine And.intro (fun c => absurd c (by decide)) (fun _ => ?_)
    refine And.intro (fun c => absurd c (by decide)) (fun _ => ?_)
    refine And.intro (fun c => absurd c (by decide)) (fun _ => ?_)
    refine And.intro (fun _ => ?_) (fun c => absurd c (by decide))
    refine And.intro (fun c => absurd c (by decide)) (fun _ => ?_)
    refine And.intro (fun c => absurd c (by decide)) (fun _ => ?_)
    refine And.intro (fun c => absurd c (by decide)) (fun _ => ?_)
    refine And.intro (fun _ => ?_) (fun c => absurd c (by decide))
    refine And.intro (fun c => absurd c (by decide)) (fun _ => ?_)
    refine And.intro (fun c => absurd c (by decide)) (fun _ => ?_)
    refine And.intro (fun c => absurd c (by decide)) (fun _ => ?_)
    refine And.intro (fun c => absurd c (by decide)) (fun _ => ?_)
    refine And.intro (fun c => absurd c (by decide)) (fun _ => ?_)
    refine And.intro (fun c => absurd c (by decide)) (fun _ => ?_)
    refine And.intro (fun _ => ?_) (fun c => absurd c (by decide))
    refine And.intro (fun c => absurd c (by decide)) (fun _ => ?_)
    refine And.intro (fun c => absurd c (by decide)) (fun _ => ?_)
    refine And.intro (fun c => absurd c (by decide)) (fun _ => ?_)
    refine And.intro (fun c => absurd c (by decide)) (fun _ => ?_)
    refine And.intro (fun _ => ?_) (fun c => absurd c (by decide))
    refine And.intro (fun _ => ?_) (fun c => absurd c (by decide))
    refine .inl ?_
    replace h := Option.some.inj h
    subst h
    exact ⟨[.p (B false)], [], ⟨[], ⟨rfl, trivial⟩, trivial, rfl⟩, rfl, rfl, rfl⟩
def m_impl_dread_non_j7 (x607 : Int) (v260 : gdread) (v261 : List (Option gpnode)) : Option (Ou (Option gpnode × gdread)) :=
  some (.ok ((some (gpnode.mk x607 v261)), v260))
def m_impl_dread_non_j11 (v264 : Int) (v266 : List (Option gpnode)) (rec10 : Int → gdread → List (Option gpnode) → Option (Ou (Option gpnode × gdread))) (v272 : Option gpnode) (v273 : gdread) : Option (Ou (Option gpnode × gdread)) :=
  gp (v266.length + ([v272] : List (Option gpnode)).length ≤ 68719476736) <|
  rec10 (wr .i64 (v264 + 1)) v273 (v266 ++ [v272])
def m_impl_dread_non_l10 (self_impl_dread_non : gdread → Int → Option (Ou (Option gpnode × gdread))) (x607 : Int) (x614 : gProd) : Nat → Int → gdread → List (Option gpnode) → Option (Ou (Option gpnode × gdread))
  | 0, _, _, _ => none
  | k10 + 1, v264, v265, v266 =>
    bif (decide (v264 < ((x614.right_.map I).length : Int))) then (
      (ix x614.right_ v264).bind fun x617 =>
      bif (decide (x617 ≥ ((v265.b_.terms_.map gTerm.enc).length : Int))) then (
        (self_impl_dread_non v265 x617).bind fun o => o.el (fun r454 =>
          m_impl_dread_non_j11 v264 v266 (m_impl_dread_non_l10 self_impl_dread_non x607 x614 k10) r454.1 r454.2)
          (fun er454 =>
            some (.pan er454)))
      else (
        m_impl_dread_non_j11 v264 v266 (m_impl_dread_non_l10 self_impl_dread_non x607 x614 k10) none v265))
    else (
      m_impl_dread_non_j7 x607 v265 v266)
def m_impl_dread_non_j2 (self_impl_dread_non : gdread → Int → Option (Ou (Option gpnode × gdread))) (n : Nat) (a56 : gdread) (v247 : Bool) : Option (Ou (Option gpnode × gdread)) :=
  bif v247 then (
    some (.pan a56.i_))
  else (
    (ix a56.d_ a56.i_).bind fun x607 =>
    (ix a56.b_.prods_ x607).bind fun x614 =>
    m_impl_dread_non_l10 self_impl_dread_non x607 x614 n 0 (gdread.mk a56.b_ a56.d_ (wr .i64 (a56.i_ + 1))) [])
def m_impl_dread_non : Nat → gdread → Int → Option (Ou (Option gpnode × gdread))
  | 0, _, _ => none
  | n + 1, a56, a57 =>
    bif (decide (a56.i_ ≥ ((a56.d_.map I).length : Int))) then (
      m_impl_dread_non_j2 (m_impl_dread_non n) n a56 true)
    else (
      (ix a56.d_ a56.i_).bind fun x622 =>
      bif (decide (x622 < 0)) then (
        m_impl_dread_non_j2 (m_impl_dread_non n) n a56 true)
      else (
        (ix a56.d_ a56.i_).bind fun x623 =>
        bif (decide (x623 ≥ ((a56.b_.prods_.map gProd.enc).length : Int))) then (
          m_impl_dread_non_j2 (m_impl_dread_non n) n a56 true)
        else (
          (ix a56.d_ a56.i_).bind fun x624 =>
          (ix a56.b_.prods_ x624).bind fun x625 =>
          m_impl_dread_non_j2 (m_impl_dread_non n) n a56 (x625.left_ != a57))))
theorem c_impl_dread_non : ∀ (n : Nat) (a56 : gdread) (a57 : Int) (r : Ou (Option gpnode × gdread)) (h : m_impl_dread_non n a56 a57 = some r), FnE Try.prog 120 [.ptr 0 0, .p (I a57)] [.box 168 [.p (.lst (a56.b_.terms_.map gTerm.enc)), .p (.lst (a56.b_.nons_.map S)), .p (I a56.b_.own_), .p (.lst (a56.b_.prods_.map gProd.enc)), .p (.lst (a56.d_.map I)), .p (I a56.i_)]] (fun rs τ' => ∃ x, r = .ok x ∧ rs = [.p (.bx (gpnode_encO x.1))] ∧ τ' = [.box 168 [.p (.lst (x.2.b_.terms_.map gTerm.enc)), .p (.lst (x.2.b_.nons_.map S)), .p (I x.2.b_.own_), .p (.lst (x.2.b_.prods_.map gProd.enc)), .p (.lst (x.2.d_.map I)), .p (I x.2.i_)]]) (fun v τ' => ∃ e, r = .pan e ∧ v = (.iface 115 (.agg #[.int .i64 e])) ∧ τ' = [.box 168 [.dead, .dead, .dead, .dead, .dead, .dead]])
  | 0, _, _, r, h => ns h
  | n + 1, a56, a57, r, h => by
    have ih_impl_dread_non := c_impl_dread_non n
    unfold m_impl_dread_non at h
    refine fn_introJE Try.func120 rfl rfl rfl ?_
    refine .inl ?_
    refine .inl ?_
    refine .inr ⟨Bool, fun x => ([(0, .ptr 0 0), (72, .p (B x))], [.box 168 [.p (.lst (a56.b_.terms_.map gTerm.enc)), .p (.lst (a56.b_.nons_.map S)), .p (I a56.b_.own_), .p (.lst (a56.b_.prods_.map gProd.enc)), .p (.lst (a56.d_.map I)), .p (I a56.i_)]]), fun x => m_impl_dread_non_j2 (m_impl_dread_non n) n a56 x = some r, ?_, ?_⟩
    · refine ⟨[0, 1, 2, 3, 4, 5, 6, 7, 8, 9, 10, 11, 12, 13, 14, 15, 16, 17, 18, 19, 20, 21, 22, 23, 24, 25, 26, 27, 28, 29, 30, 31, 32, 33, 34, 35, 36, 37, 38, 39, 40, 41, 42, 43, 44, 45, 46, 47, 48, 49, 50, 51, 52, 53, 54, 55, 56, 57, 58, 59, 60, 61, 62, 63], [], by decide +kernel, ?_⟩
      refine And.intro (fun c => ?_) (fun c => ?_)
      · replace h := cF h c
        refine And.intro (fun _ => ?_) (fun c => absurd c (by decide))
        refine And.intro (fun _ => ?_) (fun c => absurd c (by decide))
        refine And.intro (fun _ => ?_) (fun c => absurd c (by decide))
        refine And.intro (fun _ => ?_) (fun c => absurd c (by decide))
        refine And.intro (fun _ => ?_) (fun c => absurd c (by decide))
        refine And.intro (fun _ => ?_) (fun c => absurd c (by decide))
        refine And.intro (fun _ => ?_) (fun c => absurd c (by decide))
        refine And.intro (fun _ => ?_) (fun c => absurd c (by decide))
        obtain ⟨x622, hx622, h⟩ := bsm h
        refine And.intro (ix0 hx622) (Exists.intro _ (And.intro (gm (ixg hx622)) (And.intro rfl ?_)))
        refine And.intro (fun _ => ?_) (fun c => absurd c (by decide))
        refine And.intro (fun _ => ?_) (fun c => absurd c (by decide))
        refine And.intro (fun c => absurd c (by decide)) (fun _ => ?_)
        refine And.intro (fun c => ?_) (fun c => ?_)
        · replace h := cF h c
          refine And.intro (fun _ => ?_) (fun c => absurd c (by decide))
          refine And.intro (fun _ => ?_) (fun c => absurd c (by decide))
          refine And.intro (fun _ => ?_) (fun c => absurd c (by decide))
          refine And.intro (fun _ => ?_) (fun c => absurd c (by decide))
          refine And.intro (fun _ => ?_) (fun c => absurd c (by decide))
          refine And.intro (fun _ => ?_) (fun c => absurd c (by decide))
          refine And.intro (fun _ => ?_) (fun c => absurd c (by decide))
          refine And.intro (fun _ => ?_) (fun c => absurd c (by decide))
          obtain ⟨x623, hx623, h⟩ := bsm h
          refine And.intro (ix0 hx623) (Exists.intro _ (And.intro (gm (ixg hx623)) (And.intro rfl ?_)))
          refine And.intro (fun _ => ?_) (fun c => absurd c (by decide))
          refine And.intro (fun _ => ?_) (fun c => absurd c (by decide))
          refine And.intro (fun _ => ?_) (fun c => absurd c (by decide))
          refine And.intro (fun _ => ?_) (fun c => absurd c (by decide))
          refine And.intro (fun _ => ?_) (fun c => absurd c (by decide))
          refine And.intro (fun _ => ?_) (fun c => absurd c (by decide))
          refine And.intro (fun _ => ?_) (fun c => absurd c (by decide))
          refine And.intro (fun _ => ?_) (fun c => absurd c (by decide))
          refine And.intro (fun c => absurd c (by decide)) (fun _ => ?_)
          refine And.intro (fun c => ?_) (fun c => ?_)
          · replace h := cF h c
            refine And.intro (fun _ => ?_) (fun c => absurd c (by decide))
            refine And.intro (fun _ => ?_) (fun c => absurd c (by decide))
            refine And.intro (fun _ => ?_) (fun c => absurd c (by decide))
            refine And.intro (fun _ => ?_) (fun c => absurd c (by decide))
            refine And.intro (fun _ => ?_) (fun c => absurd c (by decide))
            refine And.intro (fun _ => ?_) (fun c => absurd c (by decide))
            refine And.intro (fun _ => ?_) (fun c => absurd c (by decide))
            refine And.intro (fun _ => ?_) (fun c => absurd c (by decide))
            refine And.intro (fun _ => ?_) (fun c => absurd c (by decide))
            refine And.intro (fun _ => ?_) (fun c => absurd c (by decide))
            refine And.intro (fun _ => ?_) (fun c => absurd c (by decide))
            refine And.intro (fun _ => ?_) (fun c => absurd c (by decide))
            refine And.intro (fun _ => ?_) (fun c => absurd c (by decide))
            obtain ⟨x624, hx624, h⟩ := bsm h
            refine And.intro (ix0 hx624) (Exists.intro _ (And.intro (gm (ixg hx624)) (And.intro rfl ?_)))
            refine And.intro (fun _ => ?_) (fun c => absurd c (by decide))
            refine And.intro (fun _ => ?_) (fun c => absurd c (by decide))
            obtain ⟨x625, hx625, h⟩ := bsm h
            refine And.intro (ix0 hx625) (Exists.intro _ (And.intro (gm (ixg hx625)) (And.intro rfl ?_)))
            refine And.intro (fun _ => ?_) (fun c => absurd c (by decide))
            refine And.intro (fun _ => ?_) (fun c => absurd c (by decide))
            refine And.intro (fun _ => ?_) (fun c => absurd c (by decide))
            refine And.intro (fun _ => ?_) (fun c => absurd c (by decide))
            refine And.intro (fun c => absurd c (by decide)) (fun _ => ?_)
            exact ⟨(x625.left_ != a57), h, [], ⟨rfl, rfl, trivial⟩, ⟨⟨rfl, rfl, rfl, rfl, rfl, rfl, rfl, trivial⟩, trivial⟩, rfl⟩
          · replace h := cT h c
            refine And.intro (fun c => absurd c (by decide)) (fun _ => ?_)
            refine And.intro (fun c => absurd c (by decide)) (fun _ => ?_)
            refine And.intro (fun c => absurd c (by decide)) (fun _ => ?_)
            refine And.intro (fun c => absurd c (by decide)) (fun _ => ?_)
            refine And.intro (fun c => absurd c (by decide)) (fun _ => ?_)
            refine And.intro (fun c => absurd c (by decide)) (fun _ => ?_)
            refine And.intro (fun c => absurd c (by decide)) (fun _ => ?_)
            refine And.intro (fun c => absurd c (by decide)) (fun _ => ?_)
            refine And.intro (fun c => absurd c (by decide)) (fun _ => ?_)
            refine And.intro (fun c => absurd c (by decide)) (fun _ => ?_)
            refine And.intro (fun c => absurd c (by decide)) (fun _ => ?_)
            refine And.intro (fun c => absurd c (by decide)) (fun _ => ?_)
            refine And.intro (fun c => absurd c (by decide)) (fun _ => ?_)
            refine And.intro (fun c => absurd c (by decide)) (fun _ => ?_)
            refine And.intro (fun c => absurd c (by decide)) (fun _ => ?_)
            refine And.intro (fun c => absurd c (by decide)) (fun _ => ?_)
            refine And.intro (fun c => absurd c (by decide)) (fun _ => ?_)
            refine And.intro (fun c => absurd c (by decide)) (fun _ => ?_)
            refine And.intro (fun c => absurd c (by decide)) (fun _ => ?_)
            refine And.intro (fun _ => ?_) (fun c => absurd c (by decide))
            exact ⟨true, h, [], ⟨rfl, rfl, trivial⟩, ⟨⟨rfl, rfl, rfl, rfl, rfl, rfl, rfl, trivial⟩, trivial⟩, rfl⟩
        · replace h := cT h c
          refine And.intro (fun c => absurd c (by decide)) (fun _ => ?_)
          refine And.intro (fun c => absurd c (by decide)) (fun _ => ?_)
          refine And.intro (fun c => absurd c (by decide)) (fun _ => ?_)
          refine And.intro (fun c => absurd c (by decide)) (fun _ => ?_)
          refine And.intro (fun c => absurd c (by decide)) (fun _ => ?_)
          refine And.intro (fun c => absurd c (by decide)) (fun _ => ?_)
          refine And.intro (fun c => absurd c (by decide)) (fun _ => ?_)
          refine And.intro (fun c => absurd c (by decide)) (fun _ => ?_)
          refine And.intro (fun c => absurd c (by decide)) (fun _ => ?_)
          refine And.intro (fun c => absurd c (by decide)) (fun _ => ?_)
          refine And.intro (fun c => absurd c (by decide)) (fun _ => ?_)
          refine And.intro (fun c => absurd c (by decide)) (fun _ => ?_)
          refine And.intro (fun c => absurd c (by decide)) (fun _ => ?_)
          refine And.intro (fun c => absurd c (by decide)) (fun _ => ?_)
          refine And.intro (fun c => absurd c (by decide)) (fun _ => ?_)
          refine And.intro (fun c => absurd c (by decide)) (fun _ => ?_)
          refine And.intro (fun _ => ?_) (fun c => absurd c (by decide))
          refine And.intro (fun c => absurd c (by decide)) (fun _ => ?_)
          refine And.intro (fun c => absurd c (by decide)) (fun _ => ?_)
          refine And.intro (fun c => absurd c (by decide)) (fun _ => ?_)
          refine And.intro (fun c => absurd c (by decide)) (fun _ => ?_)
          refine And.intro (fun c => absurd c (by decide)) (fun _ => ?_)
          refine And.intro (fun c => absurd c (by decide)) (fun _ => ?_)
          refine And.intro (fun c => absurd c (by decide)) (fun _ => ?_)
          refine And.intro (fun c => absurd c (by decide)) (fun _ => ?_)
          refine And.intro (fun c => absurd c (by decide)) (fun _ => ?_)
          refine And.intro (fun c => absurd c (by decide)) (fun _ => ?_)
          refine And.intro (fun c => absurd c (by decide)) (fun _ => ?_)
          refine And.intro (fun c => absurd c (by decide)) (fun _ => ?_)
          refine And.intro (fun c => absurd c (by decide)) (fun _ => ?_)
          refine And.intro (fun c => absurd c (by decide)) (fun _ => ?_)
          refine And.intro (fun c => absurd c (by decide)) (fun _ => ?_)
          refine And.intro (fun c => absurd c (by decide)) (fun _ => ?_)
          refine And.intro (fun c => absurd c (by decide)) (fun _ => ?_)
          refine And.intro (fun c => absurd c (by decide)) (fun _ => ?_)
          refine And.intro (fun c => absurd c (by decide)) (fun _ => ?_)
          refine And.intro (fun c => absurd c (by decide)) (fun _ => ?_)
          refine And.intro (fun _ => ?_) (fun c => absurd c (by decide))
          exact ⟨true, h, [], ⟨rfl, rfl, trivial⟩, ⟨⟨rfl, rfl, rfl, rfl, rfl, rfl, rfl, trivial⟩, trivial⟩, rfl⟩
      · replace h := cT h c
        refine And.intro (fun c => absurd c (by decide)) (fun _ => ?_)
        refine And.intro (fun c => absurd c (by decide)) (fun _ => ?_)
        refine And.intro (fun c => absurd c (by decide)) (fun _ => ?_)
        refine And.intro (fun c => absurd c (by decide)) (fun _ => ?_)
        refine And.intro (fun c => absurd c (by decide)) (fun _ => ?_)
        refine And.intro (fun c => absurd c (by decide)) (fun _ => ?_)
        refine And.intro (fun c => absurd c (by decide)) (fun _ => ?_)
        refine And.intro (fun c => absurd c (by decide)) (fun _ => ?_)
        refine And.intro (fun c => absurd c (by decide)) (fun _ => ?_)
        refine And.intro (fun c => absurd c (by decide)) (fun _ => ?_)
        refine And.intro (fun _ => ?_) (fun c => absurd c (by decide))
        refine And.intro (fun c => absurd c (by decide)) (fun _ => ?_)
        refine And.intro (fun c => absurd c (by decide)) (fun _ => ?_)
        refine And.intro (fun c => absurd c (by decide)) (fun _ => ?_)
        refine And.intro (fun c => absurd c (by decide)) (fun _ => ?_)
        refine And.intro (fun c => absurd c (by decide)) (fun _ => ?_)
        refine And.intro (fun c => absurd c (by decide)) (fun _ => ?_)
        refine And.intro (fun c => absurd c (by decide)) (fun _ => ?_)
        refine And.intro (fun c => absurd c (by decide)) (fun _ => ?_)
        refine And.intro (fun c => absurd c (by decide)) (fun _ => ?_)
        refine And.intro (fun c => absurd c (by decide)) (fun _ => ?_)
        refine And.intro (fun c => absurd c (by decide)) (fun _ => ?_)
        refine And.intro (fun c => absurd c (by decide)) (fun _ => ?_)
        refine And.intro (fun c => absurd c (by decide)) (fun _ => ?_)
        refine And.intro (fun c => absurd c (by decide)) (fun _ => ?_)
        refine And.intro (fun c => absurd c (by decide)) (fun _ => ?_)
        refine And.intro (fun c => absurd c (by decide)) (fun _ => ?_)
        refine And.intro (fun c => absurd c (by decide)) (fun _ => ?_)
        refine And.intro (fun _ => ?_) (fun c => absurd c (by decide))
        refine And.intro (fun c => absurd c (by decide)) (fun _ => ?_)
        refine And.intro (fun c => absurd c (by decide)) (fun _ => ?_)
        refine And.intro (fun c => absurd c (by decide)) (fun _ => ?_)
        refine And.intro (fun c => absurd c (by decide)) (fun _ => ?_)
        refine And.intro (fun c => absurd c (by decide)) (fun _ => ?_)
        refine And.intro (fun c => absurd c (by decide)) (fun _ => ?_)
        refine And.intro (fun c => absurd c (by decide)) (fun _ => ?_)
        refine And.intro (fun c => absurd c (by decide)) (fun _ => ?_)
        refine And.intro (fun c => absurd c (by decide)) (fun _ => ?_)
        refine And.intro (fun c => absurd c (by decide)) (fun _ => ?_)
        refine And.intro (fun c => absurd c (by decide)) (fun _ => ?_)
        refine And.intro (fun c => absurd c (by decide)) (fun _ => ?_)
        refine And.intro (fun c => absurd c (by decide)) (fun _ => ?_)
        refine And.intro (fun c => absurd c (by decide)) (fun _ => ?_)
        refine And.intro (fun c => absurd c (by decide)) (fun _ => ?_)
        refine And.intro (fun c => absurd c (by decide)) (fun _ => ?_)
        refine And.intro (fun c => absurd c (by decide)) (fun _ => ?_)
        refine And.intro (fun c => absurd c (by decide)) (fun _ => ?_)
        refine And.intro (fun c => absurd c (by decide)) (fun _ => ?_)
        refine And.intro (fun c => absurd c (by decide)) (fun _ => ?_)
        refine And.intro (fun _ => ?_) (fun c => absurd c (by decide))
        exact ⟨true, h, [], ⟨rfl, rfl, trivial⟩, ⟨⟨rfl, rfl, rfl, rfl, rfl, rfl, rfl, trivial⟩, trivial⟩, rfl⟩
    · rintro v247 h
      unfold m_impl_dread_non_j2 at h
      refine And.intro (fun c => ?_) (fun c => ?_)
      · replace h := cT h c
        replace h := Option.some.inj h
        subst h
        exact ⟨[.box 168 [.dead, .dead, .dead, .dead, .dead, .dead]], ⟨⟨⟨rfl, trivial, trivial, trivial, trivial, trivial, trivial, trivial⟩, trivial⟩, rfl⟩, _, rfl, rfl, rfl⟩
      · replace h := cF h c
        refine .inl ?_
        refine ⟨[0, 1, 2, 2003, 4, 5, 6, 2007, 8, 2009, 10, 1011, 12], [], by decide +kernel, ?_⟩
        obtain ⟨x607, hx607, h⟩ := bsm h
        refine And.intro (ix0 hx607) (Exists.intro _ (And.intro (gm (ixg hx607)) (And.intro rfl ?_)))
        refine .inl ?_
        refine .inr ⟨gdread × List (Option gpnode), fun x => ([(5, .ptr 1 0)], [.box 168 [.p (.lst (x.1.b_.terms_.map gTerm.enc)), .p (.lst (x.1.b_.nons_.map S)), .p (I x.1.b_.own_), .p (.lst (x.1.b_.prods_.map gProd.enc)), .p (.lst (x.1.d_.map I)), .p (I x.1.i_)], .box 137 [.p (I x607), .row 2 1 0 x.2.length], .row 72 1 (gpnode_encM x.2)]), fun x => m_impl_dread_non_j7 x607 x.1 x.2 = some r, ?_, ?_⟩
        · refine .inl ?_
          refine ⟨[0, 1, 2, 3, 4, 5, 6, 7, 8, 9, 10, 11, 12, 13], [], by decide +kernel, ?_⟩
          obtain ⟨x614, hx614, h⟩ := bsm h
          refine And.intro (ix0 hx614) (Exists.intro _ (And.intro (gm (ixg hx614)) (And.intro rfl ?_)))
          refine ⟨Int × gdread × List (Option gpnode), fun x => ([(0, .ptr 0 0), (5, .ptr 1 0), (109, .p (.lst (x614.right_.map I))), (110, .p (I ((x614.right_.map I).length : Int))), (111, .p (I x.1))], [.box 168 [.p (.lst (x.2.1.b_.terms_.map gTerm.enc)), .p (.lst (x.2.1.b_.nons_.map S)), .p (I x.2.1.b_.own_), .p (.lst (x.2.1.b_.prods_.map gProd.enc)), .p (.lst (x.2.1.d_.map I)), .p (I x.2.1.i_)], .box 137 [.p (I x607), .row 2 1 0 x.2.2.length], .row 72 1 (gpnode_encM x.2.2)]), fun x k => m_impl_dread_non_l10 (m_impl_dread_non n) x607 x614 k x.1 x.2.1 x.2.2 = some r, ⟨(0, (gdread.mk a56.b_ a56.d_ (wr .i64 (a56.i_ + 1))), []), n, h, [(72, 1)], ⟨rfl, rfl, rfl, rfl, rfl, trivial⟩, ⟨⟨rfl, rfl, rfl, rfl, rfl, rfl, rfl, trivial⟩, ⟨rfl, rfl, ⟨rfl, rfl⟩, trivial⟩, rfl, trivial⟩, rfl⟩, ?_⟩
          rintro ⟨v264, v265, v266⟩ (_ | k10) h
          · exact ns h
          unfold m_impl_dread_non_l10 at h
          refine .inl ?_
          refine .inl ?_
          refine And.intro (fun c => ?_) (fun c => ?_)
          · replace h := cT h c
            refine .inl ?_
            refine .inl ?_
            obtain ⟨x617, hx617, h⟩ := bsm h
            refine And.intro (ix0 hx617) (Exists.intro _ (And.intro (gm (ixg hx617)) (And.intro rfl ?_)))
            refine .inl ?_
            refine .inr ⟨Option gpnode × gdread, fun x => ([(0, .ptr 0 0), (5, .ptr 1 0), (8, .p (.bx (gpnode_encO x.1))), (109, .p (.lst (x614.right_.map I))), (110, .p (I ((x614.right_.map I).length : Int))), (111, .p (I v264))], [.box 168 [.p (.lst (x.2.b_.terms_.map gTerm.enc)), .p (.lst (x.2.b_.nons_.map S)), .p (I x.2.b_.own_), .p (.lst (x.2.b_.prods_.map gProd.enc)), .p (.lst (x.2.d_.map I)), .p (I x.2.i_)], .box 137 [.p (I x607), .row 2 1 0 v266.length], .row 72 1 (gpnode_encM v266)]), fun x => m_impl_dread_non_j11 v264 v266 (m_impl_dread_non_l10 (m_impl_dread_non n) x607 x614 k10) x.1 x.2 = some r, ?_, ?_⟩
            · refine .inl ?_
              refine And.intro (fun c => ?_) (fun c => ?_)
              · replace h := cT h c
                obtain ⟨o, ho, h⟩ := bsm h
                refine callPan [0] (ih_impl_dread_non v265 x617 _ ho) (fun K hk => hk) rfl ?_ ?_
                · rintro rs τ' hl' ⟨r454, rfl, rfl, rfl⟩
                  replace h := ouk h
                  exact ⟨(r454.1, r454.2), h, [], ⟨rfl, rfl, rfl, rfl, rfl, rfl, trivial⟩, ⟨⟨rfl, rfl, rfl, rfl, rfl, rfl, rfl, trivial⟩, ⟨rfl, rfl, rfl, trivial⟩, rfl, trivial⟩, rfl⟩
                · rintro v τ' hl' ⟨er454, rfl, rfl, rfl⟩
                  replace h := oup h
                  replace h := Option.some.inj h
                  subst h
                  exact ⟨[.box 168 [.dead, .dead, .dead, .dead, .dead, .dead]], ⟨⟨⟨rfl, trivial, trivial, trivial, trivial, trivial, trivial, trivial⟩, trivial⟩, rfl⟩, _, rfl, rfl, rfl⟩
              · replace h := cF h c
                exact ⟨(none, v265), h, [], ⟨rfl, rfl, rfl, rfl, rfl, rfl, trivial⟩, ⟨⟨rfl, rfl, rfl, rfl, rfl, rfl, rfl, trivial⟩, ⟨rfl, rfl, rfl, trivial⟩, rfl, trivial⟩, rfl⟩
            · rintro ⟨v272, v273⟩ h
              unfold m_impl_dread_non_j11 at h
              refine And.intro (show fits _ _ from ⟨⟨rfl, rfl⟩, trivial⟩) ?_
              obtain ⟨g6, h⟩ := gpT h
              refine Exists.intro ([.bx (gpnode_encO v272)]) (And.intro (rowN rfl rfl) ?_)
              refine Exists.intro (gpnode_encM v266) (And.intro (rowX (rowN rfl (show v266.length = (gpnode_encM v266).length by simp)) (show fits _ _ from ⟨⟨rfl, rfl⟩, trivial⟩) (appfitJ (by first | simpa using g6 | (simp at g6 ⊢; omega)) rfl)) ?_)
              exact ⟨((wr .i64 (v264 + 1)), v273, (v266 ++ [v272])), k10, h, Nat.lt_succ_self _, [], ⟨rfl, rfl, rfl, rfl, rfl, trivial⟩, ⟨⟨rfl, rfl, rfl, rfl, rfl, rfl, rfl, trivial⟩, ⟨rfl, rfl, (congrArg (AV.row 2 1 0) (show (v266 ++ [v272]).length = (v266.length + ([.bx (gpnode_encO v272)] : List PV).length) by simp)), trivial⟩, (congrArg (Bk.row 72 1) (show gpnode_encM (v266 ++ [v272]) = (gpnode_encM v266) ++ [.bx (gpnode_encO v272)] by simp)), trivial⟩, rfl⟩
          · replace h := cF h c
            exact ⟨(v265, v266), h, [], ⟨rfl, trivial⟩, ⟨⟨rfl, rfl, rfl, rfl, rfl, rfl, rfl, trivial⟩, ⟨rfl, rfl, rfl, trivial⟩, rfl, trivial⟩, rfl⟩
        · rintro ⟨v260, v261⟩ h
          unfold m_impl_dread_non_j7 at h
          refine .inl ?_
          refine .inl (Exists.intro _ (And.intro (rowN rfl (show v261.length = (gpnode_encM v261).length by simp)) ?_))
          replace h := Option.some.inj h
          subst h
          exact ⟨[.p (.bx (gpnode_encO (some (gpnode.mk x607 v261))))], [.box 168 [.p (.lst (v260.b_.terms_.map gTerm.enc)), .p (.lst (v260.b_.nons_.map S)), .p (I v260.b_.own_), .p (.lst (v260.b_.prods_.map gProd.enc)), .p (.lst (v260.d_.map I)), .p (I v260.i_)]], ⟨[], ⟨rfl, trivial⟩, ⟨⟨rfl, rfl, rfl, rfl, rfl, rfl, rfl, trivial⟩, trivial⟩, rfl⟩, rfl, _, rfl, rfl, rfl⟩
def m_impl_derivation_1_rnone (n : Nat) (a61 : Option gpnode) (a62 : Bool) : Option (Option gpnode × Bool) :=
  some (a61, a62)
theorem c_impl_derivation_1_rnone (n : Nat) (a61 : Option gpnode) (a62 : Bool) (r : Option gpnode × Bool) (h : m_impl_derivation_1_rnone n a61 a62 = some r) : FnR Try.prog 119 [.ptr 0 0, .ptr 1 0] [.box 72 [.p (.bx (gpnode_encO a61))], .box 4 [.p (B a62)]] none (fun τ' => τ' = [.box 72 [.p (.bx (gpnode_encO r.1))], .box 4 [.p (B r.2)]]) := by
  unfold m_impl_derivation_1_rnone at h
  refine fn_introR Try.func119 rfl rfl rfl rfl rfl rfl rfl rfl rfl rfl rfl ?_
  refine .inl ?_
  refine And.intro (fun c => absurd c (by decide)) (fun _ => ?_)
  replace h := Option.some.inj h
  subst h
  exact ⟨[], [.box 72 [.p (.bx (gpnode_encO a61))], .box 4 [.p (B a62)]], ⟨[], trivial, ⟨⟨rfl, rfl, trivial⟩, ⟨rfl, rfl, trivial⟩, trivial⟩, rfl⟩, rfl, rfl⟩
def m_impl_derivation_1_rsome (n : Nat) (e' : Int) (a63 : Option gpnode) (a64 : Bool) : Option (Option gpnode × Bool) :=
  some (none, false)
theorem c_impl_derivation_1_rsome (n : Nat) (e' : Int) (a63 : Option gpnode) (a64 : Bool) (r : Option gpnode × Bool) (h : m_impl_derivation_1_rsome n e' a63 a64 = some r) : FnR Try.prog 119 [.ptr 0 0, .ptr 1 0] [.box 72 [.p (.bx (gpnode_encO a63))], .box 4 [.p (B a64)]] (some (.iface 115 (.agg #[.int .i64 e']))) (fun τ' => τ' = [.box 72 [.p (.bx (gpnode_encO r.1))], .box 4 [.p (B r.2)]]) := by
  unfold m_impl_derivation_1_rsome at h
  refine fn_introR Try.func119 rfl rfl rfl rfl rfl rfl rfl rfl rfl rfl rfl ?_
  refine .inl ?_
  refine And.intro (fun _ => ?_) (fun c => absurd c (by decide))
  refine .inl ?_
  refine .inl ?_
  refine .inl ?_
  refine And.intro (fun c => absurd c (by decide)) (fun _ => ?_)
  replace h := Option.some.inj h
  subst h
  exact ⟨[], [.box 72 [.p (.bx (gpnode_encO none))], .box 4 [.p (B false)]], ⟨[], trivial, ⟨⟨rfl, rfl, trivial⟩, ⟨rfl, rfl, trivial⟩, trivial⟩, rfl⟩, rfl, rfl⟩
def m_impl_derivation (n : Nat) (a58 : gBnf) (a59 : Int) (a60 : List Int) : Option (Option gpnode × Bool) :=
  (m_impl_dread_non n (gdread.mk a58 a60 0) (wr .i64 (((a58.terms_.map gTerm.enc).length : Int) + a59))).bind fun o => o.el (fun r455 =>
    (m_impl_derivation_1_rnone n r455.1 (r455.2.i_ == ((a60.map I).length : Int))).bind fun r456 =>
    some (r456.1, r456.2))
    (fun er455 =>
      (m_impl_derivation_1_rsome n er455 none false).bind fun r457 =>
      some (r457.1, r457.2))
theorem c_impl_derivation (n : Nat) (a58 : gBnf) (a59 : Int) (a60 : List Int) (r : Option gpnode × Bool) (h : m_impl_derivation n a58 a59 a60 = some r) : FnP Try.prog 85 [a58.enc, I a59, .lst (a60.map I)] [.bx (gpnode_encO r.1), B r.2] := by
  unfold m_impl_derivation at h
  refine fn_introD Try.func85 rfl rfl rfl ?_
  refine And.intro rfl ?_
  refine .inl ?_
  refine .inl ?_
  obtain ⟨o, ho, h⟩ := bsm h
  refine callPan [3] (c_impl_dread_non n (gdread.mk a58 a60 0) (wr .i64 (((a58.terms_.map gTerm.enc).length : Int) + a59)) _ ho) (fun K hk => hk) rfl ?_ ?_
  · rintro rs τ' hl' ⟨r455, rfl, rfl, rfl⟩
    replace h := ouk h
    refine .inl ?_
    refine ⟨[2000, 1, 2, 3, 4, 5, 6, 7, 8, 1009], [1], by decide +kernel, ?_⟩
    obtain ⟨r456, hr456, h⟩ := bsm h
    refine ⟨[1, 2], rfl, _, (c_impl_derivation_1_rnone n r455.1 (r455.2.i_ == ((a60.map I).length : Int)) _ hr456).weak [] ⟨rfl, rfl, trivial⟩ ⟨⟨rfl, rfl, trivial⟩, ⟨rfl, rfl, trivial⟩, trivial⟩ rfl, ?_⟩
    rintro τ' hl' rfl
    replace h := Option.some.inj h
    subst h
    exact ⟨[.p (.bx (gpnode_encO r456.1)), .p (B r456.2)], [], ⟨[], ⟨rfl, rfl, trivial⟩, trivial, rfl⟩, rfl, rfl, rfl⟩
  · rintro v τ' hl' ⟨er455, rfl, rfl, rfl⟩
    replace h := oup h
    obtain ⟨r457, hr457, h⟩ := bsm h
    refine ⟨[1, 2], rfl, _, (c_impl_derivation_1_rsome n er455 none false _ hr457).weak [] ⟨rfl, rfl, trivial⟩ ⟨⟨rfl, rfl, trivial⟩, ⟨rfl, rfl, trivial⟩, trivial⟩ rfl, ?_⟩
    rintro τ' hl' rfl
    replace h := Option.some.inj h
    subst h
    exact ⟨[.p (.bx (gpnode_encO r457.1)), .p (B r457.2)], [], ⟨[], ⟨rfl, rfl, trivial⟩, trivial, rfl⟩, rfl, rfl, rfl⟩
def m_impl_derived_j4 (n : Nat) (a65 : gBnf) (a66 : Int) (a67 : List Int) (v277 : Bool) : Option (Option gpnode × Int) :=
  bif v277 then (
    some (none, 4))
  else (
    (m_impl_derivation n a65 a66 a67).bind fun r461 =>
    bif (!r461.2) then (
      some (none, 2))
    else (
      some (r461.1, 0)))
def m_impl_derived_j2 (n : Nat) (a65 : gBnf) (a66 : Int) (a67 : List Int) (v275 : Bool) : Option (Option gpnode × Int) :=
  bif v275 then (
    some (none, 1))
  else (
    bif (decide (a66 < 0)) then (
      m_impl_derived_j4 n a65 a66 a67 true)
    else (
      m_impl_derived_j4 n a65 a66 a67 (decide (a66 ≥ ((a65.nons_.map S).length : Int)))))
def m_impl_derived (n : Nat) (a65 : gBnf) (a66 : Int) (a67 : List Int) : Option (Option gpnode × Int) :=
  (m_impl_BnfOK n a65).bind fun r462 =>
  bif (!r462) then (
    m_impl_derived_j2 n a65 a66 a67 true)
  else (
    m_impl_derived_j2 n a65 a66 a67 (decide (((a67.map I).length : Int) > 4000)))
theorem c_impl_derived (n : Nat) (a65 : gBnf) (a66 : Int) (a67 : List Int) (r : Option gpnode × Int) (h : m_impl_derived n a65 a66 a67 = some r) : FnP Try.prog 38 [a65.enc, I a66, .lst (a67.map I)] [.bx (gpnode_encO r.1), I r.2] := by
  unfold m_impl_derived at h
  refine fn_introJ Try.func38 rfl rfl rfl ?_
  refine .inl ?_
  refine .inl ?_
  refine .inr ⟨Bool, fun x => ([(1, .p (I a66)), (2, .p (.lst (a67.map I))), (3, .ptr 0 0), (17, .p (B x))], [.box 34 [.p (.lst (a65.terms_.map gTerm.enc)), .p (.lst (a65.nons_.map S)), .p (I a65.own_), .p (.lst (a65.prods_.map gProd.enc))]]), fun x => m_impl_derived_j2 n a65 a66 a67 x = some r, ?_, ?_⟩
  · obtain ⟨r462, hr462, h⟩ := bsm h
    refine callA (c_impl_BnfOK n a65 _ hr462) ?_
    refine And.intro (fun c => ?_) (fun c => ?_)
    · replace h := cF h c
      refine And.intro (fun _ => ?_) (fun c => absurd c (by decide))
      refine And.intro (fun _ => ?_) (fun c => absurd c (by decide))
      refine And.intro (fun c => absurd c (by decide)) (fun _ => ?_)
      exact ⟨(decide (((a67.map I).length : Int) > 4000)), h, [], ⟨rfl, rfl, rfl, rfl, trivial⟩, ⟨⟨rfl, rfl, rfl, rfl, rfl, trivial⟩, trivial⟩, rfl⟩
    · replace h := cT h c
      refine And.intro (fun c => absurd c (by decide)) (fun _ => ?_)
      refine And.intro (fun c => absurd c (by decide)) (fun _ => ?_)
      refine And.intro (fun _ => ?_) (fun c => absurd c (by decide))
      exact ⟨true, h, [], ⟨rfl, rfl, rfl, rfl, trivial⟩, ⟨⟨rfl, rfl, rfl, rfl, rfl, trivial⟩, trivial⟩, rfl⟩
  · rintro v275 h
    unfold m_impl_derived_j2 at h
    refine And.intro (fun c => ?_) (fun c => ?_)
    · replace h := cT h c
      refine .inl ?_
      skip
      replace h := Option.some.inj h
      subst h
      exact ⟨[.p (.bx (gpnode_encO none)), .p (I 1)], [], ⟨[], ⟨rfl, rfl, trivial⟩, trivial, rfl⟩, rfl, rfl, rfl⟩
    · replace h := cF h c
      refine .inl ?_
      refine .inr ⟨Bool, fun x => ([(1, .p (I a66)), (2, .p (.lst (a67.map I))), (3, .ptr 0 0), (26, .p (B x))], [.box 34 [.p (.lst (a65.terms_.map gTerm.enc)), .p (.lst (a65.nons_.map S)), .p (I a65.own_), .p (.lst (a65.prods_.map gProd.enc))]]), fun x => m_impl_derived_j4 n a65 a66 a67 x = some r, ?_, ?_⟩
      · refine And.intro (fun c => ?_) (fun c => ?_)
        · replace h := cF h c
          refine And.intro (fun _ => ?_) (fun c => absurd c (by decide))
          refine And.intro (fun _ => ?_) (fun c => absurd c (by decide))
          refine And.intro (fun _ => ?_) (fun c => absurd c (by decide))
          refine And.intro (fun _ => ?_) (fun c => absurd c (by decide))
          refine And.intro (fun c => absurd c (by decide)) (fun _ => ?_)
          exact ⟨(decide (a66 ≥ ((a65.nons_.map S).length : Int))), h, [], ⟨rfl, rfl, rfl, rfl, trivial⟩, ⟨⟨rfl, rfl, rfl, rfl, rfl, trivial⟩, trivial⟩, rfl⟩
        · replace h := cT h c
          refine And.intro (fun c => absurd c (by decide)) (fun _ => ?_)
          refine And.intro (fun c => absurd c (by decide)) (fun _ => ?_)
          refine And.intro (fun c => absurd c (by decide)) (fun _ => ?_)
          refine And.intro (fun c => absurd c (by decide)) (fun _ => ?_)
          refine And.intro (fun _ => ?_) (fun c => absurd c (by decide))
          exact ⟨true, h, [], ⟨rfl, rfl, rfl, rfl, trivial⟩, ⟨⟨rfl, rfl, rfl, rfl, rfl, trivial⟩, trivial⟩, rfl⟩
      · rintro v277 h
        unfold m_impl_derived_j4 at h
        refine And.intro (fun c => ?_) (fun c => ?_)
        · replace h := cT h c
          refine .inl ?_
          skip
          replace h := Option.some.inj h
          subst h
          exact ⟨[.p (.bx (gpnode_encO none)), .p (I 4)], [], ⟨[], ⟨rfl, rfl, trivial⟩, trivial, rfl⟩, rfl, rfl, rfl⟩
        · replace h := cF h c
          refine .inl ?_
          obtain ⟨r461, hr461, h⟩ := bsm h
          refine callA (c_impl_derivation n a65 a66 a67 _ hr461) ?_
          refine .inl ?_
          refine .inl ?_
          refine And.intro (fun c => ?_) (fun c => ?_)
          · replace h := cT h c
            refine .inl ?_
            skip
            replace h := Option.some.inj h
            subst h
            exact ⟨[.p (.bx (gpnode_encO none)), .p (I 2)], [], ⟨[], ⟨rfl, rfl, trivial⟩, trivial, rfl⟩, rfl, rfl, rfl⟩
          · replace h := cF h c
            refine .inl ?_
            replace h := Option.some.inj h
            subst h
            exact ⟨[.p (.bx (gpnode_encO r461.1)), .p (I 0)], [], ⟨[], ⟨rfl, rfl, trivial⟩, trivial, rfl⟩, rfl, rfl, rfl⟩
def m_impl_good_1 (n : Nat) (a70 : Option gpnode) (a71 : Int) (a72 : gBnf) (a73 : gProd) : Option (Bool × gBnf × gProd) :=
  optc (a70) (fun b4 =>
    (a70).bind fun b6 =>
    (ix a72.prods_ b6.prod_).bind fun x631 =>
    bif (decide (x631.level_ > 0)) then (
      bif (decide (x631.level_ < a73.level_)) then (
        some (true, a72, a73))
      else (
        bif (x631.level_ == a73.level_) then (
          some ((a73.assoc_ != a71), a72, a73))
        else (
          some (false, a72, a73))))
    else (
      bif (x631.level_ == a73.level_) then (
        some ((a73.assoc_ != a71), a72, a73))
      else (
        some (false, a72, a73))))
    (some (false, a72, a73))
theorem c_impl_good_1 (n : Nat) (a70 : Option gpnode) (a71 : Int) (a72 : gBnf) (a73 : gProd) (r : Bool × gBnf × gProd) (h : m_impl_good_1 n a70 a71 a72 a73 = some r) : Sy.Fn Try.prog 86 [.p (.bx (gpnode_encO a70)), .p (I a71), .ptr 0 0, .ptr 1 0] [.box 34 [.p (.lst (a72.terms_.map gTerm.enc)), .p (.lst (a72.nons_.map S)), .p (I a72.own_), .p (.lst (a72.prods_.map gProd.enc))], .box 112 [.p (I a73.left_), .p (.lst (a73.right_.map I)), .p (S a73.label_), .p (I a73.level_), .p (I a73.assoc_)]] (fun rs τ' => rs = [.p (B r.1)] ∧ τ' = [.box 34 [.p (.lst (r.2.1.terms_.map gTerm.enc)), .p (.lst (r.2.1.nons_.map S)), .p (I r.2.1.own_), .p (.lst (r.2.1.prods_.map gProd.enc))], .box 112 [.p (I r.2.2.left_), .p (.lst (r.2.2.right_.map I)), .p (S r.2.2.label_), .p (I r.2.2.level_), .p (I r.2.2.assoc_)]]) := by
  unfold m_impl_good_1 at h
  refine fn_introJ Try.func86 rfl rfl rfl ?_
  refine .inl ?_
  refine .inl ?_
  refine .inl ?_
  rcases opt2 (a70) with hn | ⟨b4, hb4⟩
  · replace h := ocn h hn
    refine .inl (And.intro (gpnode_encO_none hn) ?_)
    refine And.intro (fun _ => ?_) (fun c => absurd c (by decide))
    refine .inl ?_
    replace h := Option.some.inj h
    subst h
    exact ⟨[.p (B false)], [.box 34 [.p (.lst (a72.terms_.map gTerm.enc)), .p (.lst (a72.nons_.map S)), .p (I a72.own_), .p (.lst (a72.prods_.map gProd.enc))], .box 112 [.p (I a73.left_), .p (.lst (a73.right_.map I)), .p (S a73.label_), .p (I a73.level_), .p (I a73.assoc_)]], ⟨[], ⟨rfl, trivial⟩, ⟨⟨rfl, rfl, rfl, rfl, rfl, trivial⟩, ⟨rfl, rfl, rfl, rfl, rfl, rfl, trivial⟩, trivial⟩, rfl⟩, rfl, rfl, rfl⟩
  · replace h := ocs h hb4
    refine .inr (Exists.intro _ (And.intro (gpnode_encO_some hb4) ?_))
    refine And.intro (fun c => absurd c (by decide)) (fun _ => ?_)
    refine .inl ?_
    refine ⟨[0, 1, 2, 3, 4, 5, 6, 7, 8, 9], [], by decide +kernel, ?_⟩
    obtain ⟨b6, hb6, h⟩ := bsm h
    refine Exists.intro _ (And.intro (gpnode_encO_some hb6) ?_)
    obtain ⟨x631, hx631, h⟩ := bsm h
    refine And.intro (ix0 hx631) (Exists.intro _ (And.intro (gm (ixg hx631)) (And.intro rfl ?_)))
    refine .inl ?_
    refine And.intro (fun c => ?_) (fun c => ?_)
    · replace h := cT h c
      refine And.intro (fun _ => ?_) (fun c => absurd c (by decide))
      refine And.intro (fun _ => ?_) (fun c => absurd c (by decide))
      refine And.intro (fun _ => ?_) (fun c => absurd c (by decide))
      refine And.intro (fun _ => ?_) (fun c => absurd c (by decide))
      refine And.intro (fun c => ?_) (fun c => ?_)
      · replace h := cF h c
        refine And.intro (fun _ => ?_) (fun c => absurd c (by decide))
        refine And.intro (fun _ => ?_) (fun c => absurd c (by decide))
        refine And.intro (fun _ => ?_) (fun c => absurd c (by decide))
        refine And.intro (fun _ => ?_) (fun c => absurd c (by decide))
        refine And.intro (fun c => ?_) (fun c => ?_)
        · replace h := cT h c
          refine And.intro (fun _ => ?_) (fun c => absurd c (by decide))
          refine And.intro (fun _ => ?_) (fun c => absurd c (by decide))
          refine And.intro (fun _ => ?_) (fun c => absurd c (by decide))
          refine And.intro (fun _ => ?_) (fun c => absurd c (by decide))
          refine And.intro (fun _ => ?_) (fun c => absurd c (by decide))
          refine And.intro (fun c => absurd c (by decide)) (fun _ => ?_)
          replace h := Option.some.inj h
          subst h
          exact ⟨[.p (B (a73.assoc_ != a71))], [.box 34 [.p (.lst (a72.terms_.map gTerm.enc)), .p (.lst (a72.nons_.map S)), .p (I a72.own_), .p (.lst (a72.prods_.map gProd.enc))], .box 112 [.p (I a73.left_), .p (.lst (a73.right_.map I)), .p (S a73.label_), .p (I a73.level_), .p (I a73.assoc_)]], ⟨[], ⟨rfl, trivial⟩, ⟨⟨rfl, rfl, rfl, rfl, rfl, trivial⟩, ⟨rfl, rfl, rfl, rfl, rfl, rfl, trivial⟩, trivial⟩, rfl⟩, rfl, rfl, rfl⟩
        · replace h := cF h c
          refine And.intro (fun c => absurd c (by decide)) (fun _ => ?_)
          refine And.intro (fun c => absurd c (by decide)) (fun _ => ?_)
          refine And.intro (fun c => absurd c (by decide)) (fun _ => ?_)
          refine And.intro (fun _ => ?_) (fun c => absurd c (by decide))
          refine And.intro (fun c => absurd c (by decide)) (fun _ => ?_)
          refine And.intro (fun c => absurd c (by decide)) (fun _ => ?_)
          replace h := Option.some.inj h
          subst h
          exact ⟨[.p (B false)], [.box 34 [.p (.lst (a72.terms_.map gTerm.enc)), .p (.lst (a72.nons_.map S)), .p (I a72.own_), .p (.lst (a72.prods_.map gProd.enc))], .box 112 [.p (I a73.left_), .p (.lst (a73.right_.map I)), .p (S a73.label_), .p (I a73.level_), .p (I a73.assoc_)]], ⟨[], ⟨rfl, trivial⟩, ⟨⟨rfl, rfl, rfl, rfl, rfl, trivial⟩, ⟨rfl, rfl, rfl, rfl, rfl, rfl, trivial⟩, trivial⟩, rfl⟩, rfl, rfl, rfl⟩
      · replace h := cT h c
        refine And.intro (fun c => absurd c (by decide)) (fun _ => ?_)
        refine And.intro (fun c => absurd c (by decide)) (fun _ => ?_)
        refine And.intro (fun c => absurd c (by decide)) (fun _ => ?_)
        refine And.intro (fun c => absurd c (by decide)) (fun _ => ?_)
        refine And.intro (fun c => absurd c (by decide)) (fun _ => ?_)
        refine And.intro (fun _ => ?_) (fun c => absurd c (by decide))
        replace h := Option.some.inj h
        subst h
        exact ⟨[.p (B true)], [.box 34 [.p (.lst (a72.terms_.map gTerm.enc)), .p (.lst (a72.nons_.map S)), .p (I a72.own_), .p (.lst (a72.prods_.map gProd.enc))], .box 112 [.p (I a73.left_), .p (.lst (a73.right_.map I)), .p (S a73.label_), .p (I a73.level_), .p (I a73.assoc_)]], ⟨[], ⟨rfl, trivial⟩, ⟨⟨rfl, rfl, rfl, rfl, rfl, trivial⟩, ⟨rfl, rfl, rfl, rfl, rfl, rfl, trivial⟩, trivial⟩, rfl⟩, rfl, rfl, rfl⟩
    · replace h := cF h c
      refine And.intro (fun c => absurd c (by decide)) (fun _ => ?_)
      refine And.intro (fun c => absurd c (by decide)) (fun _ => ?_)
      refine And.intro (fun c => absurd c (by decide)) (fun _ => ?_)
      refine And.intro (fun c => absurd c (by decide)) (fun _ => ?_)
      refine And.intro (fun _ => ?_) (fun c => absurd c (by decide))
      refine And.intro (fun _ => ?_) (fun c => absurd c (by decide))
      refine And.intro (fun _ => ?_) (fun c => absurd c (by decide))
      refine And.intro (fun _ => ?_) (fun c => absurd c (by decide))
      refine And.intro (fun _ => ?_) (fun c => absurd c (by decide))
      refine And.intro (fun c => ?_) (fun c => ?_)
      · replace h := cT h c
        refine And.intro (fun _ => ?_) (fun c => absurd c (by decide))
        refine And.intro (fun _ => ?_) (fun c => absurd c (by decide))
        refine And.intro (fun _ => ?_) (fun c => absurd c (by decide))
        refine And.intro (fun _ => ?_) (fun c => absurd c (by decide))
        refine And.intro (fun _ => ?_) (fun c => absurd c (by decide))
        refine And.intro (fun c => absurd c (by decide)) (fun _ => ?_)
        replace h := Option.some.inj h
        subst h
        exact ⟨[.p (B (a73.assoc_ != a71))], [.box 34 [.p (.lst (a72.terms_.map gTerm.enc)), .p (.lst (a72.nons_.map S)), .p (I a72.own_), .p (.lst (a72.prods_.map gProd.enc))], .box 112 [.p (I a73.left_), .p (.lst (a73.right_.map I)), .p (S a73.label_), .p (I a73.level_), .p (I a73.assoc_)]], ⟨[], ⟨rfl, trivial⟩, ⟨⟨rfl, rfl, rfl, rfl, rfl, trivial⟩, ⟨rfl, rfl, rfl, rfl, rfl, rfl, trivial⟩, trivial⟩, rfl⟩, rfl, rfl, rfl⟩
      · replace h := cF h c
        refine And.intro (fun c => absurd c (by decide)) (fun _ => ?_)
        refine And.intro (fun c => absurd c (by decide)) (fun _ => ?_)
        refine And.intro (fun c => absurd c (by decide)) (fun _ => ?_)
        refine And.intro (fun _ => ?_) (fun c => absurd c (by decide))
        refine And.intro (fun c => absurd c (by decide)) (fun _ => ?_)
        refine And.intro (fun c => absurd c (by decide)) (fun _ => ?_)
        replace h := Option.some.inj h
        subst h
        exact ⟨[.p (B false)], [.box 34 [.p (.lst (a72.terms_.map gTerm.enc)), .p (.lst (a72.nons_.map S)), .p (I a72.own_), .p (.lst (a72.prods_.map gProd.enc))], .box 112 [.p (I a73.left_), .p (.lst (a73.right_.map I)), .p (S a73.label_), .p (I a73.level_), .p (I a73.assoc_)]], ⟨[], ⟨rfl, trivial⟩, ⟨⟨rfl, rfl, rfl, rfl, rfl, trivial⟩, ⟨rfl, rfl, rfl, rfl, rfl, rfl, trivial⟩, trivial⟩, rfl⟩, rfl, rfl, rfl⟩
def m_impl_good_j5 : Option Bool :=
  some true
def m_impl_good_l6 (self_impl_good : gBnf → Option gpnode → Option Bool) (v281 : gBnf) (b16 : gpnode) : Nat → Int → Option Bool
  | 0, _ => none
  | k6 + 1, v284 =>
    bif (decide (v284 < ((gpnode_encM b16.kids_).length : Int))) then (
      (ix b16.kids_ v284).bind fun x647 =>
      optc (x647) (fun b19 =>
        (self_impl_good v281 x647).bind fun r474 =>
        bif (!r474) then (
          some false)
        else (
          (m_impl_good_l6 self_impl_good v281 b16 k6) (wr .i64 (v284 + 1))))
        ((m_impl_good_l6 self_impl_good v281 b16 k6) (wr .i64 (v284 + 1))))
    else (
      m_impl_good_j5)
def m_impl_good_j3 (self_impl_good : gBnf → Option gpnode → Option Bool) (n : Nat) (a69 : Option gpnode) (v281 : gBnf) : Option Bool :=
  (a69).bind fun b16 =>
  m_impl_good_l6 self_impl_good v281 b16 n 0
def m_impl_good_j8 (self_impl_good : gBnf → Option gpnode → Option Bool) (n : Nat) (a69 : Option gpnode) (x627 : gProd) (v287 : gBnf) (v288 : gProd) : Option Bool :=
  bif (decide (((x627.right_.map I).length : Int) > 1)) then (
    (ix v288.right_ (wr .i64 (((x627.right_.map I).length : Int) - 1))).bind fun x654 =>
    bif (x654 == v288.left_) then (
      (a69).bind fun b23 =>
      (ix b23.kids_ (wr .i64 (((x627.right_.map I).length : Int) - 1))).bind fun x655 =>
      (m_impl_good_1 n x655 2 v287 v288).bind fun r478 =>
      bif r478.1 then (
        some false)
      else (
        m_impl_good_j3 self_impl_good n a69 r478.2.1))
    else (
      m_impl_good_j3 self_impl_good n a69 v287))
  else (
    m_impl_good_j3 self_impl_good n a69 v287)
def m_impl_good_j7 (self_impl_good : gBnf → Option gpnode → Option Bool) (n : Nat) (a68 : gBnf) (a69 : Option gpnode) (x627 : gProd) (v286 : Bool) : Option Bool :=
  bif v286 then (
    (ix x627.right_ 0).bind fun x658 =>
    bif (x658 == x627.left_) then (
      (a69).bind fun b25 =>
      (ix b25.kids_ 0).bind fun x659 =>
      (m_impl_good_1 n x659 1 a68 x627).bind fun r480 =>
      bif r480.1 then (
        some false)
      else (
        m_impl_good_j8 self_impl_good n a69 x627 r480.2.1 r480.2.2))
    else (
      m_impl_good_j8 self_impl_good n a69 x627 a68 x627))
  else (
    m_impl_good_j3 self_impl_good n a69 a68)
def m_impl_good : Nat → gBnf → Option gpnode → Option Bool
  | 0, _, _ => none
  | n + 1, a68, a69 =>
    (a69).bind fun b2 =>
    (ix a68.prods_ b2.prod_).bind fun x627 =>
    bif (decide (x627.level_ > 0)) then (
      m_impl_good_j7 (m_impl_good n) n a68 a69 x627 (decide (((x627.right_.map I).length : Int) > 0)))
    else (
      m_impl_good_j7 (m_impl_good n) n a68 a69 x627 false)
theorem c_impl_good : ∀ (n : Nat) (a68 : gBnf) (a69 : Option gpnode) (r : Bool) (h : m_impl_good n a68 a69 = some r), FnP Try.prog 39 [a68.enc, .bx (gpnode_encO a69)] [B r]
  | 0, _, _, r, h => ns h
  | n + 1, a68, a69, r, h => by
    have ih_impl_good := c_impl_good n
    unfold m_impl_good at h
    refine fn_introJ Try.func39 rfl rfl rfl ?_
    refine .inl ?_
    refine .inl ?_
    refine ⟨[0, 1, 2, 3, 4, 5, 6, 7, 8, 1009], [], by decide +kernel, ?_⟩
    obtain ⟨b2, hb2, h⟩ := bsm h
    refine Exists.intro _ (And.intro (gpnode_encO_some hb2) ?_)
    obtain ⟨x627, hx627, h⟩ := bsm h
    refine And.intro (ix0 hx627) (Exists.intro _ (And.intro (gm (ixg hx627)) (And.intro rfl ?_)))
    refine .inl ?_
    refine .inr ⟨gBnf, fun x => ([(1, .p (.bx (gpnode_encO a69))), (2, .ptr 0 0)], [.box 34 [.p (.lst (x.terms_.map gTerm.enc)), .p (.lst (x.nons_.map S)), .p (I x.own_), .p (.lst (x.prods_.map gProd.enc))]]), fun x => m_impl_good_j3 (m_impl_good n) n a69 x = some r, ?_, ?_⟩
    · refine .inl ?_
      refine .inr ⟨Bool, fun x => ([(1, .p (.bx (gpnode_encO a69))), (2, .ptr 0 0), (5, .ptr 1 0), (6, .fn 86 [.ptr 0 0, .ptr 1 0]), (7, .p (I ((x627.right_.map I).length : Int))), (28, .p (B x))], [.box 34 [.p (.lst (a68.terms_.map gTerm.enc)), .p (.lst (a68.nons_.map S)), .p (I a68.own_), .p (.lst (a68.prods_.map gProd.enc))], .box 112 [.p (I x627.left_), .p (.lst (x627.right_.map I)), .p (S x627.label_), .p (I x627.level_), .p (I x627.assoc_)]]), fun x => m_impl_good_j7 (m_impl_good n) n a68 a69 x627 x = some r, ?_, ?_⟩
      · refine And.intro (fun c => ?_) (fun c => ?_)
        · replace h := cT h c
          refine And.intro (fun _ => ?_) (fun c => absurd c (by decide))
          refine And.intro (fun _ => ?_) (fun c => absurd c (by decide))
          exact ⟨(decide (((x627.right_.map I).length : Int) > 0)), h, [], ⟨rfl, rfl, rfl, rfl, rfl, rfl, trivial⟩, ⟨⟨rfl, rfl, rfl, rfl, rfl, trivial⟩, ⟨rfl, rfl, rfl, rfl, rfl, rfl, trivial⟩, trivial⟩, rfl⟩
        · replace h := cF h c
          refine And.intro (fun c => absurd c (by decide)) (fun _ => ?_)
          refine And.intro (fun c => absurd c (by decide)) (fun _ => ?_)
          exact ⟨false, h, [], ⟨rfl, rfl, rfl, rfl, rfl, rfl, trivial⟩, ⟨⟨rfl, rfl, rfl, rfl, rfl, trivial⟩, ⟨rfl, rfl, rfl, rfl, rfl, rfl, trivial⟩, trivial⟩, rfl⟩
      · rintro v286 h
        unfold m_impl_good_j7 at h
        refine And.intro (fun c => ?_) (fun c => ?_)
        · replace h := cT h c
          refine .inr ⟨gBnf × gProd, fun x => ([(1, .p (.bx (gpnode_encO a69))), (2, .ptr 0 0), (5, .ptr 1 0), (6, .fn 86 [.ptr 0 0, .ptr 1 0]), (7, .p (I ((x627.right_.map I).length : Int)))], [.box 34 [.p (.lst (x.1.terms_.map gTerm.enc)), .p (.lst (x.1.nons_.map S)), .p (I x.1.own_), .p (.lst (x.1.prods_.map gProd.enc))], .box 112 [.p (I x.2.left_), .p (.lst (x.2.right_.map I)), .p (S x.2.label_), .p (I x.2.level_), .p (I x.2.assoc_)]]), fun x => m_impl_good_j8 (m_impl_good n) n a69 x627 x.1 x.2 = some r, ?_, ?_⟩
          · refine .inl ?_
            refine ⟨[0, 2001, 2, 2003, 4, 2005, 6, 7, 8, 9, 10, 11, 2012, 13, 2014, 1015, 16], [], by decide +kernel, ?_⟩
            obtain ⟨x658, hx658, h⟩ := bsm h
            refine And.intro (ix0 hx658) (Exists.intro _ (And.intro (gm (ixg hx658)) (And.intro rfl ?_)))
            refine And.intro (fun c => ?_) (fun c => ?_)
            · replace h := cT h c
              refine And.intro (fun _ => ?_) (fun c => absurd c (by decide))
              refine And.intro (fun _ => ?_) (fun c => absurd c (by decide))
              obtain ⟨b25, hb25, h⟩ := bsm h
              refine Exists.intro _ (And.intro (gpnode_encO_some hb25) ?_)
              refine And.intro (fun _ => ?_) (fun c => absurd c (by decide))
              refine And.intro (fun _ => ?_) (fun c => absurd c (by decide))
              refine And.intro (fun _ => ?_) (fun c => absurd c (by decide))
              obtain ⟨x659, hx659, h⟩ := bsm h
              refine And.intro (ix0 hx659) (Exists.intro _ (And.intro (gpnode_encM_get (ixg hx659)) (And.intro rfl ?_)))
              refine And.intro (fun _ => ?_) (fun c => absurd c (by decide))
              refine And.intro (fun _ => ?_) (fun c => absurd c (by decide))
              obtain ⟨r480, hr480, h⟩ := bsm h
              refine callW (args' := [.p (.bx (gpnode_encO x659)), .p (I 1), .ptr 0 0, .ptr 1 0]) (τ0 := [.box 34 [.p (.lst (a68.terms_.map gTerm.enc)), .p (.lst (a68.nons_.map S)), .p (I a68.own_), .p (.lst (a68.prods_.map gProd.enc))], .box 112 [.p (I x627.left_), .p (.lst (x627.right_.map I)), .p (S x627.label_), .p (I x627.level_), .p (I x627.assoc_)]]) [0, 1] [] (c_impl_good_1 n x659 1 a68 x627 _ hr480) (fun K hk => hk) rfl ⟨rfl, rfl, rfl, rfl, trivial⟩ ⟨⟨rfl, rfl, rfl, rfl, rfl, trivial⟩, ⟨rfl, rfl, rfl, rfl, rfl, rfl, trivial⟩, trivial⟩ rfl ?_
              rintro rs τ' hl' ⟨rfl, rfl⟩
              refine And.intro (fun _ => ?_) (fun c => absurd c (by decide))
              refine And.intro (fun c => ?_) (fun c => ?_)
              · replace h := cT h c
                refine .inl ?_
                replace h := Option.some.inj h
                subst h
                exact ⟨[.p (B false)], [], ⟨[], ⟨rfl, trivial⟩, trivial, rfl⟩, rfl, rfl, rfl⟩
              · replace h := cF h c
                exact ⟨(r480.2.1, r480.2.2), h, [], ⟨rfl, rfl, rfl, rfl, rfl, trivial⟩, ⟨⟨rfl, rfl, rfl, rfl, rfl, trivial⟩, ⟨rfl, rfl, rfl, rfl, rfl, rfl, trivial⟩, trivial⟩, rfl⟩
            · replace h := cF h c
              refine And.intro (fun c => absurd c (by decide)) (fun _ => ?_)
              refine And.intro (fun c => absurd c (by decide)) (fun _ => ?_)
              refine And.intro (fun c => absurd c (by decide)) (fun _ => ?_)
              refine And.intro (fun c => absurd c (by decide)) (fun _ => ?_)
              refine And.intro (fun c => absurd c (by decide)) (fun _ => ?_)
              refine And.intro (fun c => absurd c (by decide)) (fun _ => ?_)
              refine And.intro (fun c => absurd c (by decide)) (fun _ => ?_)
              refine And.intro (fun c => absurd c (by decide)) (fun _ => ?_)
              refine And.intro (fun c => absurd c (by decide)) (fun _ => ?_)
              exact ⟨(a68, x627), h, [], ⟨rfl, rfl, rfl, rfl, rfl, trivial⟩, ⟨⟨rfl, rfl, rfl, rfl, rfl, trivial⟩, ⟨rfl, rfl, rfl, rfl, rfl, rfl, trivial⟩, trivial⟩, rfl⟩
          · rintro ⟨v287, v288⟩ h
            unfold m_impl_good_j8 at h
            refine .inl ?_
            refine ⟨[0, 1, 2, 3, 2004, 5, 6, 7, 2008, 9, 2010, 11, 12, 13, 14, 15, 16, 17, 2018, 19, 20, 21, 2022, 1023, 24], [], by decide +kernel, ?_⟩
            refine And.intro (fun c => ?_) (fun c => ?_)
            · replace h := cT h c
              refine And.intro (fun _ => ?_) (fun c => absurd c (by decide))
              refine And.intro (fun _ => ?_) (fun c => absurd c (by decide))
              refine And.intro (fun _ => ?_) (fun c => absurd c (by decide))
              refine And.intro (fun _ => ?_) (fun c => absurd c (by decide))
              obtain ⟨x654, hx654, h⟩ := bsm h
              refine And.intro (ix0 hx654) (Exists.intro _ (And.intro (gm (ixg hx654)) (And.intro rfl ?_)))
              refine And.intro (fun _ => ?_) (fun c => absurd c (by decide))
              refine And.intro (fun _ => ?_) (fun c => absurd c (by decide))
              refine And.intro (fun _ => ?_) (fun c => absurd c (by decide))
              refine And.intro (fun _ => ?_) (fun c => absurd c (by decide))
              refine And.intro (fun _ => ?_) (fun c => absurd c (by decide))
              refine And.intro (fun c => ?_) (fun c => ?_)
              · replace h := cT h c
                refine And.intro (fun _ => ?_) (fun c => absurd c (by decide))
                refine And.intro (fun _ => ?_) (fun c => absurd c (by decide))
                obtain ⟨b23, hb23, h⟩ := bsm h
                refine Exists.intro _ (And.intro (gpnode_encO_some hb23) ?_)
                refine And.intro (fun _ => ?_) (fun c => absurd c (by decide))
                refine And.intro (fun _ => ?_) (fun c => absurd c (by decide))
                refine And.intro (fun _ => ?_) (fun c => absurd c (by decide))
                refine And.intro (fun _ => ?_) (fun c => absurd c (by decide))
                refine And.intro (fun _ => ?_) (fun c => absurd c (by decide))
                obtain ⟨x655, hx655, h⟩ := bsm h
                refine And.intro (ix0 hx655) (Exists.intro _ (And.intro (gpnode_encM_get (ixg hx655)) (And.intro rfl ?_)))
                refine And.intro (fun _ => ?_) (fun c => absurd c (by decide))
                refine And.intro (fun _ => ?_) (fun c => absurd c (by decide))
                obtain ⟨r478, hr478, h⟩ := bsm h
                refine callW (args' := [.p (.bx (gpnode_encO x655)), .p (I 2), .ptr 0 0, .ptr 1 0]) (τ0 := [.box 34 [.p (.lst (v287.terms_.map gTerm.enc)), .p (.lst (v287.nons_.map S)), .p (I v287.own_), .p (.lst (v287.prods_.map gProd.enc))], .box 112 [.p (I v288.left_), .p (.lst (v288.right_.map I)), .p (S v288.label_), .p (I v288.level_), .p (I v288.assoc_)]]) [0, 1] [] (c_impl_good_1 n x655 2 v287 v288 _ hr478) (fun K hk => hk) rfl ⟨rfl, rfl, rfl, rfl, trivial⟩ ⟨⟨rfl, rfl, rfl, rfl, rfl, trivial⟩, ⟨rfl, rfl, rfl, rfl, rfl, rfl, trivial⟩, trivial⟩ rfl ?_
                rintro rs τ' hl' ⟨rfl, rfl⟩
                refine And.intro (fun _ => ?_) (fun c => absurd c (by decide))
                refine And.intro (fun c => ?_) (fun c => ?_)
                · replace h := cT h c
                  refine .inl ?_
                  replace h := Option.some.inj h
                  subst h
                  exact ⟨[.p (B false)], [], ⟨[], ⟨rfl, trivial⟩, trivial, rfl⟩, rfl, rfl, rfl⟩
                · replace h := cF h c
                  exact ⟨r478.2.1, h, [], ⟨rfl, rfl, trivial⟩, ⟨⟨rfl, rfl, rfl, rfl, rfl, trivial⟩, trivial⟩, rfl⟩
              · replace h := cF h c
                refine And.intro (fun c => absurd c (by decide)) (fun _ => ?_)
                refine And.intro (fun c => absurd c (by decide)) (fun _ => ?_)
                refine And.intro (fun c => absurd c (by decide)) (fun _ => ?_)
                refine And.intro (fun c => absurd c (by decide)) (fun _ => ?_)
                refine And.intro (fun c => absurd c (by decide)) (fun _ => ?_)
                refine And.intro (fun c => absurd c (by decide)) (fun _ => ?_)
                refine And.intro (fun c => absurd c (by decide)) (fun _ => ?_)
                refine And.intro (fun c => absurd c (by decide)) (fun _ => ?_)
                refine And.intro (fun c => absurd c (by decide)) (fun _ => ?_)
                refine And.intro (fun c => absurd c (by decide)) (fun _ => ?_)
                refine And.intro (fun c => absurd c (by decide)) (fun _ => ?_)
                exact ⟨v287, h, [], ⟨rfl, rfl, trivial⟩, ⟨⟨rfl, rfl, rfl, rfl, rfl, trivial⟩, trivial⟩, rfl⟩
            · replace h := cF h c
              refine And.intro (fun c => absurd c (by decide)) (fun _ => ?_)
              refine And.intro (fun c => absurd c (by decide)) (fun _ => ?_)
              refine And.intro (fun c => absurd c (by decide)) (fun _ => ?_)
              refine And.intro (fun c => absurd c (by decide)) (fun _ => ?_)
              refine And.intro (fun c => absurd c (by decide)) (fun _ => ?_)
              refine And.intro (fun c => absurd c (by decide)) (fun _ => ?_)
              refine And.intro (fun c => absurd c (by decide)) (fun _ => ?_)
              refine And.intro (fun c => absurd c (by decide)) (fun _ => ?_)
              refine And.intro (fun c => absurd c (by decide)) (fun _ => ?_)
              refine And.intro (fun c => absurd c (by decide)) (fun _ => ?_)
              refine And.intro (fun c => absurd c (by decide)) (fun _ => ?_)
              refine And.intro (fun c => absurd c (by decide)) (fun _ => ?_)
              refine And.intro (fun c => absurd c (by decide)) (fun _ => ?_)
              refine And.intro (fun c => absurd c (by decide)) (fun _ => ?_)
              refine And.intro (fun c => absurd c (by decide)) (fun _ => ?_)
              refine And.intro (fun c => absurd c (by decide)) (fun _ => ?_)
              refine And.intro (fun c => absurd c (by decide)) (fun _ => ?_)
              refine And.intro (fun c => absurd c (by decide)) (fun _ => ?_)
              refine And.intro (fun c => absurd c (by decide)) (fun _ => ?_)
              refine And.intro (fun c => absurd c (by decide)) (fun _ => ?_)
              refine And.intro (fun c => absurd c (by decide)) (fun _ => ?_)
              exact ⟨v287, h, [], ⟨rfl, rfl, trivial⟩, ⟨⟨rfl, rfl, rfl, rfl, rfl, trivial⟩, trivial⟩, rfl⟩
        · replace h := cF h c
          exact ⟨a68, h, [], ⟨rfl, rfl, trivial⟩, ⟨⟨rfl, rfl, rfl, rfl, rfl, trivial⟩, trivial⟩, rfl⟩
    · rintro v281 h
      unfold m_impl_good_j3 at h
      refine .inr ⟨Unit, fun x => ([], []), fun x => m_impl_good_j5 = some r, ?_, ?_⟩
      · refine .inl ?_
        obtain ⟨b16, hb16, h⟩ := bsm h
        refine Exists.intro _ (And.intro (gpnode_encO_some hb16) ?_)
        refine ⟨Int, fun x => ([(2, .ptr 0 0), (74, .p (.lst (gpnode_encM b16.kids_))), (75, .p (I ((gpnode_encM b16.kids_).length : Int))), (76, .p (I x))], [.box 34 [.p (.lst (v281.terms_.map gTerm.enc)), .p (.lst (v281.nons_.map S)), .p (I v281.own_), .p (.lst (v281.prods_.map gProd.enc))]]), fun x k => m_impl_good_l6 (m_impl_good n) v281 b16 k x = some r, ⟨0, n, h, [], ⟨rfl, rfl, rfl, rfl, trivial⟩, ⟨⟨rfl, rfl, rfl, rfl, rfl, trivial⟩, trivial⟩, rfl⟩, ?_⟩
        rintro v284 (_ | k6) h
        · exact ns h
        unfold m_impl_good_l6 at h
        refine .inl ?_
        refine .inl ?_
        refine And.intro (fun c => ?_) (fun c => ?_)
        · replace h := cT h c
          refine .inl ?_
          refine .inl ?_
          obtain ⟨x647, hx647, h⟩ := bsm h
          refine And.intro (ix0 hx647) (Exists.intro _ (And.intro (gpnode_encM_get (ixg hx647)) (And.intro rfl ?_)))
          refine .inl ?_
          rcases opt2 (x647) with hn | ⟨b19, hb19⟩
          · replace h := ocn h hn
            refine .inl (And.intro (gpnode_encO_none hn) ?_)
            refine And.intro (fun c => absurd c (by decide)) (fun _ => ?_)
            refine And.intro (fun c => absurd c (by decide)) (fun _ => ?_)
            refine And.intro (fun c => absurd c (by decide)) (fun _ => ?_)
            refine And.intro (fun c => absurd c (by decide)) (fun _ => ?_)
            refine And.intro (fun c => absurd c (by decide)) (fun _ => ?_)
            refine And.intro (fun c => absurd c (by decide)) (fun _ => ?_)
            exact ⟨(wr .i64 (v284 + 1)), k6, h, Nat.lt_succ_self _, [], ⟨rfl, rfl, rfl, rfl, trivial⟩, ⟨⟨rfl, rfl, rfl, rfl, rfl, trivial⟩, trivial⟩, rfl⟩
          · replace h := ocs h hb19
            refine .inr (Exists.intro _ (And.intro (gpnode_encO_some hb19) ?_))
            refine And.intro (fun _ => ?_) (fun c => absurd c (by decide))
            refine And.intro (fun _ => ?_) (fun c => absurd c (by decide))
            refine And.intro (fun _ => ?_) (fun c => absurd c (by decide))
            obtain ⟨r474, hr474, h⟩ := bsm h
            refine callA (ih_impl_good v281 x647 _ hr474) ?_
            refine And.intro (fun _ => ?_) (fun c => absurd c (by decide))
            refine And.intro (fun _ => ?_) (fun c => absurd c (by decide))
            refine And.intro (fun c => ?_) (fun c => ?_)
            · replace h := cT h c
              refine .inl ?_
              replace h := Option.some.inj h
              subst h
              exact ⟨[.p (B false)], [], ⟨[], ⟨rfl, trivial⟩, trivial, rfl⟩, rfl, rfl, rfl⟩
            · replace h := cF h c
              exact ⟨(wr .i64 (v284 + 1)), k6, h, Nat.lt_succ_self _, [], ⟨rfl, rfl, rfl, rfl, trivial⟩, ⟨⟨rfl, rfl, rfl, rfl, rfl, trivial⟩, trivial⟩, rfl⟩
        · replace h := cF h c
          exact ⟨(), h, [], trivial, trivial, rfl⟩
      · rintro _ h
        unfold m_impl_good_j5 at h
        refine .inl ?_
        replace h := Option.some.inj h
        subst h
        exact ⟨[.p (B true)], [], ⟨[], ⟨rfl, trivial⟩, trivial, rfl⟩, rfl, rfl, rfl⟩
def m_impl_Good (n : Nat) (a74 : gBnf) (a75 : Int) (a76 : List Int) : Option (Bool × Int) :=
  (m_impl_derived n a74 a75 a76).bind fun r481 =>
  bif (r481.2 != 0) then (
    some (false, r481.2))
  else (
    (m_impl_good n a74 r481.1).bind fun r482 =>
    some (r482, 0))
theorem c_impl_Good (n : Nat) (a74 : gBnf) (a75 : Int) (a76 : List Int) (r : Bool × Int) (h : m_impl_Good n a74 a75 a76 = some r) : FnP Try.prog 12 [a74.enc, I a75, .lst (a76.map I)] [B r.1, I r.2] := by
  unfold m_impl_Good at h
  refine fn_introJ Try.func12 rfl rfl rfl ?_
  refine .inl ?_
  refine .inl ?_
  obtain ⟨r481, hr481, h⟩ := bsm h
  refine callA (c_impl_derived n a74 a75 a76 _ hr481) ?_
  refine .inl ?_
  refine .inl ?_
  refine And.intro (fun c => ?_) (fun c => ?_)
  · replace h := cT h c
    refine .inl ?_
    replace h := Option.some.inj h
    subst h
    exact ⟨[.p (B false), .p (I r481.2)], [], ⟨[], ⟨rfl, rfl, trivial⟩, trivial, rfl⟩, rfl, rfl, rfl⟩
  · replace h := cF h c
    refine .inl ?_
    obtain ⟨r482, hr482, h⟩ := bsm h
    refine callA (c_impl_good n a74 r481.1 _ hr482) ?_
    replace h := Option.some.inj h
    subst h
    exact ⟨[.p (B r482), .p (I 0)], [], ⟨[], ⟨rfl, rfl, trivial⟩, trivial, rfl⟩, rfl, rfl, rfl⟩
def m_laws_eqTerm (n : Nat) (a77 : gTerm) (a78 : gTerm) : Option Bool :=
  bif (!decide (a77.name_ = a78.name_)) then (
    some false)
  else (
    bif (a77.level_ != a78.level_) then (
      some false)
    else (
      bif (a77.assoc_ != a78.assoc_) then (
        some false)
      else (
        some true)))
theorem c_laws_eqTerm (n : Nat) (a77 : gTerm) (a78 : gTerm) (r : Bool) (h : m_laws_eqTerm n a77 a78 = some r) : FnP Try.prog 87 [a77.enc, a78.enc] [B r] := by
  unfold m_laws_eqTerm at h
  refine fn_introJ Try.func87 rfl rfl rfl ?_
  refine .inl ?_
  refine .inl ?_
  refine .inl ?_
  refine And.intro (fun c => ?_) (fun c => ?_)
  · replace h := cT h c
    refine .inl ?_
    replace h := Option.some.inj h
    subst h
    exact ⟨[.p (B false)], [], ⟨[], ⟨rfl, trivial⟩, trivial, rfl⟩, rfl, rfl, rfl⟩
  · replace h := cF h c
    refine .inl ?_
    refine .inl ?_
    refine And.intro (fun c => ?_) (fun c => ?_)
    · replace h := cT h c
      refine .inl ?_
      replace h := Option.some.inj h
      subst h
      exact ⟨[.p (B false)], [], ⟨[], ⟨rfl, trivial⟩, trivial, rfl⟩, rfl, rfl, rfl⟩
    · replace h := cF h c
      refine .inl ?_
      refine .inl ?_
      refine And.intro (fun c => ?_) (fun c => ?_)
      · replace h := cT h c
        refine .inl ?_
        replace h := Option.some.inj h
        subst h
        exact ⟨[.p (B false)], [], ⟨[], ⟨rfl, trivial⟩, trivial, rfl⟩, rfl, rfl, rfl⟩
      · replace h := cF h c
        refine .inl ?_
        replace h := Option.some.inj h
        subst h
        exact ⟨[.p (B true)], [], ⟨[], ⟨rfl, trivial⟩, trivial, rfl⟩, rfl, rfl, rfl⟩
def m_laws_eqTermS_j2 : Option Bool :=
  some true
end Go.Proofs.Ytnnalcglfgapbaa.Z
