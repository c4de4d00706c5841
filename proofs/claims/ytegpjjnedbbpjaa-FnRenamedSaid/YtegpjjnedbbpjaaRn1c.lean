/- Printed: models and contracts. -/
import Derived.Test.YtegpjjnedbbpjaaRn1b
set_option linter.unusedVariables false
set_option linter.unusedSimpArgs false
set_option linter.unnecessarySimpa false
set_option maxRecDepth 100000
set_option maxHeartbeats 8000000
namespace Go.Proofs.Ytegpjjnedbbpjaa.Z
open Go Go.RowKit Go.Proofs.Sy Go.Proofs
theorem c_slices_Equal___int_int_ (n : Nat) (a68 : List Int) (a69 : List Int) (r : Bool) (h : m_slices_Equal___int_int_ n a68 a69 = some r) : FnP Try.prog 107 [.lst (a68.map I), .lst (a69.map I)] [B r] := by
  unfold m_slices_Equal___int_int_ at h
  refine fn_introJ Try.func107 rfl rfl rfl ?_
  refine .inl ?_
  refine .inl ?_
  refine .inl ?_
  refine And.intro (fun c => ?_) (fun c => ?_)
  · replace h := cT h c
    refine .inl ?_
    replace h := Option.some.inj h
    subst h
    exact ⟨[.p (B false)], [], ⟨[], ⟨rfl, trivial⟩, trivial, rfl⟩, rfl, rfl, rfl⟩
  · replace h := cF h c
    refine .inr ⟨Unit, fun x => ([], []), fun x => m_slices_Equal___int_int__j2 = some r, ?_, ?_⟩
    · refine .inl ?_
      refine ⟨Int, fun x => ([(0, .p (.lst (a68.map I))), (1, .p (.lst (a69.map I))), (12, .p (I ((a68.map I).length : Int))), (13, .p (I x))], []), fun x k => m_slices_Equal___int_int__l3 a68 a69 k x = some r, ⟨0, n, h, [], ⟨rfl, rfl, rfl, rfl, trivial⟩, trivial, rfl⟩, ?_⟩
      rintro v508 (_ | k3) h
      · exact ns h
      unfold m_slices_Equal___int_int__l3 at h
      refine .inl ?_
      refine .inl ?_
      refine And.intro (fun c => ?_) (fun c => ?_)
      · replace h := cT h c
        refine .inl ?_
        refine .inl ?_
        refine .inl ?_
        refine ⟨[0, 1, 2, 3, 4, 5, 6, 7, 8], [], by decide +kernel, ?_⟩
        obtain ⟨x844, hx844, h⟩ := bsm h
        refine And.intro (ix0 hx844) (Exists.intro _ (And.intro (gm (ixg hx844)) (And.intro rfl ?_)))
        obtain ⟨x845, hx845, h⟩ := bsm h
        refine And.intro (ix0 hx845) (Exists.intro _ (And.intro (gm (ixg hx845)) (And.intro rfl ?_)))
        refine And.intro (fun c => ?_) (fun c => ?_)
        · replace h := cT h c
          refine .inl ?_
          replace h := Option.some.inj h
          subst h
          exact ⟨[.p (B false)], [], ⟨[], ⟨rfl, trivial⟩, trivial, rfl⟩, rfl, rfl, rfl⟩
        · replace h := cF h c
          exact ⟨(wr .i64 (v508 + 1)), k3, h, Nat.lt_succ_self _, [], ⟨rfl, rfl, rfl, rfl, trivial⟩, trivial, rfl⟩
      · replace h := cF h c
        exact ⟨(), h, [], trivial, trivial, rfl⟩
    · rintro _ h
      unfold m_slices_Equal___int_int__j2 at h
      refine .inl ?_
      replace h := Option.some.inj h
      subst h
      exact ⟨[.p (B true)], [], ⟨[], ⟨rfl, trivial⟩, trivial, rfl⟩, rfl, rfl, rfl⟩
def m_impl_Rename_j9 (a70 : gSg) (a71 : Int) (a72 : ByteArray) (x846 : gSpot) (v518 : List gSpot) : Option (gSg × Int) :=
  some ((gSg.mk a70.scopes_ a70.edges_ (a70.decls_.set a71.toNat (gSpot.mk x846.scope_ a72)) v518), 0)
def m_impl_Rename_l10 (n : Nat) (a70 : gSg) (a71 : Int) (a72 : ByteArray) (x846 : gSpot) (v518 : List gSpot) : Nat → Int → Option (gSg × Int)
  | 0, _ => none
  | k10 + 1, v521 =>
    bif (decide (v521 < ((a70.refs_.map gSpot.enc).length : Int))) then (
      (m_impl_Sg_resolve n a70 v521).bind fun r829 =>
      (m_impl_Sg_resolve n (gSg.mk a70.scopes_ a70.edges_ (a70.decls_.set a71.toNat (gSpot.mk x846.scope_ a72)) v518) v521).bind fun r830 =>
      (m_slices_Equal___int_int_ n r829 r830).bind fun r831 =>
      bif (!r831) then (
        some ((gSg.mk 0 [] [] []), 12))
      else (
        (m_impl_Rename_l10 n a70 a71 a72 x846 v518 k10) (wr .i64 (v521 + 1))))
    else (
      m_impl_Rename_j9 a70 a71 a72 x846 v518)
def m_impl_Rename_j7 (n : Nat) (a70 : gSg) (a71 : Int) (a72 : ByteArray) (x846 : gSpot) (v518 : List gSpot) : Option (gSg × Int) :=
  m_impl_Rename_l10 n a70 a71 a72 x846 v518 n 0
def m_impl_Rename_l11 (n : Nat) (a70 : gSg) (a71 : Int) (a72 : ByteArray) (x846 : gSpot) : Nat → Int → List gSpot → Option (gSg × Int)
  | 0, _, _ => none
  | k11 + 1, v523, v524 =>
    bif (decide (v523 < ((a70.refs_.map gSpot.enc).length : Int))) then (
      (m_impl_Sg_resolve n a70 v523).bind fun r836 =>
      (m_slices_Contains___int_int_ n r836 a71).bind fun r837 =>
      bif r837 then (
        bif (decide (((r836.map I).length : Int) > 1)) then (
          some ((gSg.mk 0 [] [] []), 5))
        else (
          (ix v524 v523).bind fun x852 =>
          (m_impl_Rename_l11 n a70 a71 a72 x846 k11) (wr .i64 (v523 + 1)) (v524.set v523.toNat (gSpot.mk x852.scope_ a72))))
      else (
        (m_impl_Rename_l11 n a70 a71 a72 x846 k11) (wr .i64 (v523 + 1)) v524))
    else (
      m_impl_Rename_j7 n a70 a71 a72 x846 v524)
def m_impl_Rename_j5 (n : Nat) (a70 : gSg) (a71 : Int) (a72 : ByteArray) : Option (gSg × Int) :=
  (ix a70.decls_ a71).bind fun x846 =>
  m_impl_Rename_l11 n a70 a71 a72 x846 n 0 a70.refs_
def m_impl_Rename_j4 (n : Nat) (a70 : gSg) (a71 : Int) (a72 : ByteArray) (v513 : Bool) : Option (gSg × Int) :=
  bif v513 then (
    some ((gSg.mk 0 [] [] []), 4))
  else (
    gp (a70.edges_.length ≤ 68719476736) <|
    gp (a70.decls_.length ≤ 68719476736) <|
    gp (a70.refs_.length ≤ 68719476736) <|
    m_impl_Rename_j5 n a70 a71 a72)
def m_impl_Rename_j2 (n : Nat) (a70 : gSg) (a71 : Int) (a72 : ByteArray) (v511 : Bool) : Option (gSg × Int) :=
  bif v511 then (
    some ((gSg.mk 0 [] [] []), 1))
  else (
    bif (decide (a71 < 0)) then (
      m_impl_Rename_j4 n a70 a71 a72 true)
    else (
      m_impl_Rename_j4 n a70 a71 a72 (decide (a71 ≥ ((a70.decls_.map gSpot.enc).length : Int)))))
def m_impl_Rename (n : Nat) (a70 : gSg) (a71 : Int) (a72 : ByteArray) : Option (gSg × Int) :=
  (m_impl_SgOK n a70).bind fun r838 =>
  bif (!r838) then (
    m_impl_Rename_j2 n a70 a71 a72 true)
  else (
    (m_impl_nameOK n a72).bind fun r839 =>
    m_impl_Rename_j2 n a70 a71 a72 (!r839))
theorem c_impl_Rename (n : Nat) (a70 : gSg) (a71 : Int) (a72 : ByteArray) (r : gSg × Int) (h : m_impl_Rename n a70 a71 a72 = some r) : FnP Try.prog 39 [a70.enc, I a71, S a72] [r.1.enc, I r.2] := by
  unfold m_impl_Rename at h
  refine fn_introJ Try.func39 rfl rfl rfl ?_
  refine .inl ?_
  refine .inl ?_
  refine .inr ⟨Bool, fun x => ([(1, .p (I a71)), (2, .p (S a72)), (3, .ptr 0 0), (6, .ptr 1 0), (19, .p (B x))], [.box 65 [.p (I a70.scopes_), .p (.lst (a70.edges_.map gSEdge.enc)), .p (.lst (a70.decls_.map gSpot.enc)), .p (.lst (a70.refs_.map gSpot.enc))], .box 65 [.p (I 0), .tl [], .tl [], .tl []]]), fun x => m_impl_Rename_j2 n a70 a71 a72 x = some r, ?_, ?_⟩
  · obtain ⟨r838, hr838, h⟩ := bsm h
    refine callA (c_impl_SgOK n a70 _ hr838) ?_
    refine And.intro (fun c => ?_) (fun c => ?_)
    · replace h := cF h c
      refine And.intro (fun _ => ?_) (fun c => absurd c (by decide))
      obtain ⟨r839, hr839, h⟩ := bsm h
      refine callA (c_impl_nameOK n a72 _ hr839) ?_
      refine And.intro (fun _ => ?_) (fun c => absurd c (by decide))
      refine And.intro (fun c => absurd c (by decide)) (fun _ => ?_)
      exact ⟨(!r839), h, [], ⟨rfl, rfl, rfl, rfl, rfl, trivial⟩, ⟨⟨rfl, rfl, rfl, rfl, rfl, trivial⟩, ⟨rfl, rfl, rfl, rfl, rfl, trivial⟩, trivial⟩, rfl⟩
    · replace h := cT h c
      refine And.intro (fun c => absurd c (by decide)) (fun _ => ?_)
      refine And.intro (fun c => absurd c (by decide)) (fun _ => ?_)
      refine And.intro (fun _ => ?_) (fun c => absurd c (by decide))
      exact ⟨true, h, [], ⟨rfl, rfl, rfl, rfl, rfl, trivial⟩, ⟨⟨rfl, rfl, rfl, rfl, rfl, trivial⟩, ⟨rfl, rfl, rfl, rfl, rfl, trivial⟩, trivial⟩, rfl⟩
  · rintro v511 h
    unfold m_impl_Rename_j2 at h
    refine And.intro (fun c => ?_) (fun c => ?_)
    · replace h := cT h c
      refine .inl ?_
      refine .inl ?_
      replace h := Option.some.inj h
      subst h
      exact ⟨[.p ((gSg.mk 0 [] [] []).enc), .p (I 1)], [], ⟨[], ⟨rfl, rfl, trivial⟩, trivial, rfl⟩, rfl, rfl, rfl⟩
    · replace h := cF h c
      refine .inl ?_
      refine .inr ⟨Bool, fun x => ([(1, .p (I a71)), (2, .p (S a72)), (3, .ptr 0 0), (6, .ptr 1 0), (29, .p (B x))], [.box 65 [.p (I a70.scopes_), .p (.lst (a70.edges_.map gSEdge.enc)), .p (.lst (a70.decls_.map gSpot.enc)), .p (.lst (a70.refs_.map gSpot.enc))], .box 65 [.p (I 0), .tl [], .tl [], .tl []]]), fun x => m_impl_Rename_j4 n a70 a71 a72 x = some r, ?_, ?_⟩
      · refine And.intro (fun c => ?_) (fun c => ?_)
        · replace h := cF h c
          refine And.intro (fun _ => ?_) (fun c => absurd c (by decide))
          refine And.intro (fun _ => ?_) (fun c => absurd c (by decide))
          refine And.intro (fun _ => ?_) (fun c => absurd c (by decide))
          refine And.intro (fun _ => ?_) (fun c => absurd c (by decide))
          refine And.intro (fun c => absurd c (by decide)) (fun _ => ?_)
          exact ⟨(decide (a71 ≥ ((a70.decls_.map gSpot.enc).length : Int))), h, [], ⟨rfl, rfl, rfl, rfl, rfl, trivial⟩, ⟨⟨rfl, rfl, rfl, rfl, rfl, trivial⟩, ⟨rfl, rfl, rfl, rfl, rfl, trivial⟩, trivial⟩, rfl⟩
        · replace h := cT h c
          refine And.intro (fun c => absurd c (by decide)) (fun _ => ?_)
          refine And.intro (fun c => absurd c (by decide)) (fun _ => ?_)
          refine And.intro (fun c => absurd c (by decide)) (fun _ => ?_)
          refine And.intro (fun c => absurd c (by decide)) (fun _ => ?_)
          refine And.intro (fun _ => ?_) (fun c => absurd c (by decide))
          exact ⟨true, h, [], ⟨rfl, rfl, rfl, rfl, rfl, trivial⟩, ⟨⟨rfl, rfl, rfl, rfl, rfl, trivial⟩, ⟨rfl, rfl, rfl, rfl, rfl, trivial⟩, trivial⟩, rfl⟩
      · rintro v513 h
        unfold m_impl_Rename_j4 at h
        refine And.intro (fun c => ?_) (fun c => ?_)
        · replace h := cT h c
          refine .inl ?_
          refine .inl ?_
          replace h := Option.some.inj h
          subst h
          exact ⟨[.p ((gSg.mk 0 [] [] []).enc), .p (I 4)], [], ⟨[], ⟨rfl, rfl, trivial⟩, trivial, rfl⟩, rfl, rfl, rfl⟩
        · replace h := cF h c
          refine .inr ⟨Unit, fun x => ([(1, .p (I a71)), (2, .p (S a72)), (3, .ptr 0 0), (6, .ptr 1 0), (8, .ptr 2 0)], [.box 65 [.p (I a70.scopes_), .p (.lst (a70.edges_.map gSEdge.enc)), .p (.lst (a70.decls_.map gSpot.enc)), .p (.lst (a70.refs_.map gSpot.enc))], .box 65 [.p (I 0), .tl [], .tl [], .tl []], .box 65 [.p (I a70.scopes_), .row 3 3 0 a70.edges_.length, .row 4 2 0 a70.decls_.length, .row 5 2 0 a70.refs_.length], .row 165 3 (a70.edges_.map gSEdge.enc), .row 71 2 (a70.decls_.map gSpot.enc), .row 71 2 (a70.refs_.map gSpot.enc)]), fun x => m_impl_Rename_j5 n a70 a71 a72 = some r, ?_, ?_⟩
          · refine ⟨[0, 1, 2, 3, 5, 6, 8, 9, 5000, 4, 5000, 7, 5000, 10, 11, 12, 1013, 12, 10, 11, 1013, 6000, 6000, 6000, 6000, 6000, 12, 7, 10, 11, 1013, 6000, 6000, 6000, 6000, 6000, 6000, 6000, 6000, 6000, 6000, 6000, 6000, 6000, 6000, 6000, 6000, 12, 4, 7, 10, 11, 1013], [], by decide +kernel, ?_⟩
            obtain ⟨g33, h⟩ := gpT h
            obtain ⟨g30, h⟩ := gpT h
            obtain ⟨g28, h⟩ := gpT h
            refine And.intro ?_ ?_
            · skip
              refine And.intro ⟨.inl rfl, trivial, (fits_map (e := gSEdge.enc) (fun _ => ⟨rfl, rfl⟩) _), appfitJ (by first | simpa using g33 | (simp at g33 ⊢; omega) | (simp at g33 ⊢; done)) rfl⟩ ?_
              refine And.intro ?_ ?_
              · skip
                refine And.intro ⟨.inl rfl, trivial, (fits_map (e := gSpot.enc) (fun _ => ⟨rfl, rfl⟩) _), appfitJ (by first | simpa using g30 | (simp at g30 ⊢; omega) | (simp at g30 ⊢; done)) rfl⟩ ?_
                refine And.intro ?_ ?_
                · skip
                  refine And.intro ⟨.inl rfl, trivial, (fits_map (e := gSpot.enc) (fun _ => ⟨rfl, rfl⟩) _), appfitJ (by first | simpa using g28 | (simp at g28 ⊢; omega) | (simp at g28 ⊢; done)) rfl⟩ ?_
                  exact ⟨(), h, [(999999, 0), (999999, 1), (999999, 5), (999999, 2), (999999, 3), (999999, 4)], ⟨rfl, rfl, rfl, rfl, rfl, trivial⟩, ⟨⟨rfl, rfl, rfl, rfl, rfl, trivial⟩, ⟨rfl, rfl, rfl, rfl, rfl, trivial⟩, ⟨rfl, rfl, (congrArg (AV.row 3 3 0) (show a70.edges_.length = (([] : List PV).length + (a70.edges_.map gSEdge.enc : List PV).length) by simp)), (congrArg (AV.row 4 2 0) (show a70.decls_.length = (([] : List PV).length + (a70.decls_.map gSpot.enc : List PV).length) by simp)), (congrArg (AV.row 5 2 0) (show a70.refs_.length = (([] : List PV).length + (a70.refs_.map gSpot.enc : List PV).length) by simp)), trivial⟩, (congrArg (Bk.row 165 3) (show a70.edges_.map gSEdge.enc = [] ++ (a70.edges_.map gSEdge.enc) by simp)), (congrArg (Bk.row 71 2) (show a70.decls_.map gSpot.enc = [] ++ (a70.decls_.map gSpot.enc) by simp)), (congrArg (Bk.row 71 2) (show a70.refs_.map gSpot.enc = [] ++ (a70.refs_.map gSpot.enc) by simp)), trivial⟩, rfl⟩
                · skip
                  refine And.intro ⟨.inl rfl, trivial, (fits_map (e := gSpot.enc) (fun _ => ⟨rfl, rfl⟩) _), appfitJ (by first | simpa using g28 | (simp at g28 ⊢; omega) | (simp at g28 ⊢; done)) rfl⟩ ?_
                  exact ⟨(), h, [(999999, 0), (999999, 1), (999999, 4), (999999, 2), (999999, 3), (999999, 5)], ⟨rfl, rfl, rfl, rfl, rfl, trivial⟩, ⟨⟨rfl, rfl, rfl, rfl, rfl, trivial⟩, ⟨rfl, rfl, rfl, rfl, rfl, trivial⟩, ⟨rfl, rfl, (congrArg (AV.row 3 3 0) (show a70.edges_.length = (([] : List PV).length + (a70.edges_.map gSEdge.enc : List PV).length) by simp)), (congrArg (AV.row 4 2 0) (show a70.decls_.length = (([] : List PV).length + (a70.decls_.map gSpot.enc : List PV).length) by simp)), (congrArg (AV.row 5 2 0) (show a70.refs_.length = (([] : List PV).length + (a70.refs_.map gSpot.enc : List PV).length) by simp)), trivial⟩, (congrArg (Bk.row 165 3) (show a70.edges_.map gSEdge.enc = [] ++ (a70.edges_.map gSEdge.enc) by simp)), (congrArg (Bk.row 71 2) (show a70.decls_.map gSpot.enc = [] ++ (a70.decls_.map gSpot.enc) by simp)), (congrArg (Bk.row 71 2) (show a70.refs_.map gSpot.enc = [] ++ (a70.refs_.map gSpot.enc) by simp)), trivial⟩, rfl⟩
              · skip
                refine And.intro ⟨.inl rfl, trivial, (fits_map (e := gSpot.enc) (fun _ => ⟨rfl, rfl⟩) _), appfitJ (by first | simpa using g30 | (simp at g30 ⊢; omega) | (simp at g30 ⊢; done)) rfl⟩ ?_
                refine And.intro ⟨.inl rfl, trivial, (fits_map (e := gSpot.enc) (fun _ => ⟨rfl, rfl⟩) _), appfitJ (by first | simpa using g28 | (simp at g28 ⊢; omega) | (simp at g28 ⊢; done)) rfl⟩ ?_
                exact ⟨(), h, [(999999, 0), (999999, 1), (999999, 3), (999999, 2), (999999, 4), (999999, 5)], ⟨rfl, rfl, rfl, rfl, rfl, trivial⟩, ⟨⟨rfl, rfl, rfl, rfl, rfl, trivial⟩, ⟨rfl, rfl, rfl, rfl, rfl, trivial⟩, ⟨rfl, rfl, (congrArg (AV.row 3 3 0) (show a70.edges_.length = (([] : List PV).length + (a70.edges_.map gSEdge.enc : List PV).length) by simp)), (congrArg (AV.row 4 2 0) (show a70.decls_.length = (([] : List PV).length + (a70.decls_.map gSpot.enc : List PV).length) by simp)), (congrArg (AV.row 5 2 0) (show a70.refs_.length = (([] : List PV).length + (a70.refs_.map gSpot.enc : List PV).length) by simp)), trivial⟩, (congrArg (Bk.row 165 3) (show a70.edges_.map gSEdge.enc = [] ++ (a70.edges_.map gSEdge.enc) by simp)), (congrArg (Bk.row 71 2) (show a70.decls_.map gSpot.enc = [] ++ (a70.decls_.map gSpot.enc) by simp)), (congrArg (Bk.row 71 2) (show a70.refs_.map gSpot.enc = [] ++ (a70.refs_.map gSpot.enc) by simp)), trivial⟩, rfl⟩
            · skip
              refine And.intro ⟨.inl rfl, trivial, (fits_map (e := gSEdge.enc) (fun _ => ⟨rfl, rfl⟩) _), appfitJ (by first | simpa using g33 | (simp at g33 ⊢; omega) | (simp at g33 ⊢; done)) rfl⟩ ?_
              refine And.intro ⟨.inl rfl, trivial, (fits_map (e := gSpot.enc) (fun _ => ⟨rfl, rfl⟩) _), appfitJ (by first | simpa using g30 | (simp at g30 ⊢; omega) | (simp at g30 ⊢; done)) rfl⟩ ?_
              refine And.intro ⟨.inl rfl, trivial, (fits_map (e := gSpot.enc) (fun _ => ⟨rfl, rfl⟩) _), appfitJ (by first | simpa using g28 | (simp at g28 ⊢; omega) | (simp at g28 ⊢; done)) rfl⟩ ?_
              exact ⟨(), h, [], ⟨rfl, rfl, rfl, rfl, rfl, trivial⟩, ⟨⟨rfl, rfl, rfl, rfl, rfl, trivial⟩, ⟨rfl, rfl, rfl, rfl, rfl, trivial⟩, ⟨rfl, rfl, (congrArg (AV.row 3 3 0) (show a70.edges_.length = (([] : List PV).length + (a70.edges_.map gSEdge.enc : List PV).length) by simp)), (congrArg (AV.row 4 2 0) (show a70.decls_.length = (([] : List PV).length + (a70.decls_.map gSpot.enc : List PV).length) by simp)), (congrArg (AV.row 5 2 0) (show a70.refs_.length = (([] : List PV).length + (a70.refs_.map gSpot.enc : List PV).length) by simp)), trivial⟩, (congrArg (Bk.row 165 3) (show a70.edges_.map gSEdge.enc = [] ++ (a70.edges_.map gSEdge.enc) by simp)), (congrArg (Bk.row 71 2) (show a70.decls_.map gSpot.enc = [] ++ (a70.decls_.map gSpot.enc) by simp)), (congrArg (Bk.row 71 2) (show a70.refs_.map gSpot.enc = [] ++ (a70.refs_.map gSpot.enc) by simp)), trivial⟩, rfl⟩
          · rintro _ h
            unfold m_impl_Rename_j5 at h
            refine .inl ?_
            obtain ⟨x846, hx846, h⟩ := bsm h
            refine And.intro (ixr hx846) ?_
            refine Exists.intro _ (And.intro ⟨(gz (gm (ixg hx846))), ⟨rfl, rfl⟩, by decide⟩ ?_)
            refine .inr ⟨List gSpot, fun x => ([(3, .ptr 0 0), (6, .ptr 1 0), (8, .ptr 2 0)], [.box 65 [.p (I a70.scopes_), .p (.lst (a70.edges_.map gSEdge.enc)), .p (.lst (a70.decls_.map gSpot.enc)), .p (.lst (a70.refs_.map gSpot.enc))], .box 65 [.p (I 0), .tl [], .tl [], .tl []], .box 65 [.p (I a70.scopes_), .row 3 3 0 a70.edges_.length, .row 4 2 0 ((a70.decls_.set a71.toNat (gSpot.mk x846.scope_ a72)).length), .row 5 2 0 x.length], .row 165 3 (a70.edges_.map gSEdge.enc), .row 71 2 ((a70.decls_.set a71.toNat (gSpot.mk x846.scope_ a72)).map gSpot.enc), .row 71 2 (x.map gSpot.enc)]), fun x => m_impl_Rename_j7 n a70 a71 a72 x846 x = some r, ?_, ?_⟩
            · refine .inl ?_
              refine ⟨Int × List gSpot, fun x => ([(1, .p (I a71)), (2, .p (S a72)), (3, .ptr 0 0), (6, .ptr 1 0), (8, .ptr 2 0), (51, .p (I ((a70.refs_.map gSpot.enc).length : Int))), (52, .p (I x.1))], [.box 65 [.p (I a70.scopes_), .p (.lst (a70.edges_.map gSEdge.enc)), .p (.lst (a70.decls_.map gSpot.enc)), .p (.lst (a70.refs_.map gSpot.enc))], .box 65 [.p (I 0), .tl [], .tl [], .tl []], .box 65 [.p (I a70.scopes_), .row 3 3 0 a70.edges_.length, .row 4 2 0 ((a70.decls_.set a71.toNat (gSpot.mk x846.scope_ a72)).length), .row 5 2 0 x.2.length], .row 165 3 (a70.edges_.map gSEdge.enc), .row 71 2 ((a70.decls_.set a71.toNat (gSpot.mk x846.scope_ a72)).map gSpot.enc), .row 71 2 (x.2.map gSpot.enc)]), fun x k => m_impl_Rename_l11 n a70 a71 a72 x846 k x.1 x.2 = some r, ⟨(0, a70.refs_), n, h, [], ⟨rfl, rfl, rfl, rfl, rfl, rfl, rfl, trivial⟩, ⟨⟨rfl, rfl, rfl, rfl, rfl, trivial⟩, ⟨rfl, rfl, rfl, rfl, rfl, trivial⟩, ⟨rfl, rfl, rfl, (congrArg (AV.row 4 2 0) (show (a70.decls_.set a71.toNat (gSpot.mk x846.scope_ a72)).length = a70.decls_.length by simp)), rfl, trivial⟩, rfl, (congrArg (Bk.row 71 2) (show (a70.decls_.set a71.toNat (gSpot.mk x846.scope_ a72)).map gSpot.enc = (a70.decls_.map gSpot.enc).set (0 + a71.toNat) ((gSpot.mk x846.scope_ a72).enc) by simp)), rfl, trivial⟩, rfl⟩, ?_⟩
              rintro ⟨v523, v524⟩ (_ | k11) h
              · exact ns h
              unfold m_impl_Rename_l11 at h
              refine .inl ?_
              refine .inl ?_
              refine And.intro (fun c => ?_) (fun c => ?_)
              · replace h := cT h c
                refine .inl ?_
                refine .inl ?_
                refine .inl ?_
                obtain ⟨r836, hr836, h⟩ := bsm h
                refine callA (c_impl_Sg_resolve n a70 v523 _ hr836) ?_
                refine .inl ?_
                obtain ⟨r837, hr837, h⟩ := bsm h
                refine callA (c_slices_Contains___int_int_ n r836 a71 _ hr837) ?_
                refine And.intro (fun c => ?_) (fun c => ?_)
                · replace h := cT h c
                  refine .inl ?_
                  refine .inl ?_
                  refine And.intro (fun c => ?_) (fun c => ?_)
                  · replace h := cT h c
                    refine .inl ?_
                    refine .inl ?_
                    replace h := Option.some.inj h
                    subst h
                    exact ⟨[.p ((gSg.mk 0 [] [] []).enc), .p (I 5)], [], ⟨[], ⟨rfl, rfl, trivial⟩, trivial, rfl⟩, rfl, rfl, rfl⟩
                  · replace h := cF h c
                    obtain ⟨x852, hx852, h⟩ := bsm h
                    refine And.intro (ixr hx852) ?_
                    refine Exists.intro _ (And.intro ⟨(gz (gm (ixg hx852))), ⟨rfl, rfl⟩, by decide⟩ ?_)
                    exact ⟨((wr .i64 (v523 + 1)), (v524.set v523.toNat (gSpot.mk x852.scope_ a72))), k11, h, Nat.lt_succ_self _, [], ⟨rfl, rfl, rfl, rfl, rfl, rfl, rfl, trivial⟩, ⟨⟨rfl, rfl, rfl, rfl, rfl, trivial⟩, ⟨rfl, rfl, rfl, rfl, rfl, trivial⟩, ⟨rfl, rfl, rfl, rfl, (congrArg (AV.row 5 2 0) (show (v524.set v523.toNat (gSpot.mk x852.scope_ a72)).length = v524.length by simp)), trivial⟩, rfl, rfl, (congrArg (Bk.row 71 2) (show (v524.set v523.toNat (gSpot.mk x852.scope_ a72)).map gSpot.enc = (v524.map gSpot.enc).set (0 + v523.toNat) ((gSpot.mk x852.scope_ a72).enc) by simp)), trivial⟩, rfl⟩
                · replace h := cF h c
                  exact ⟨((wr .i64 (v523 + 1)), v524), k11, h, Nat.lt_succ_self _, [], ⟨rfl, rfl, rfl, rfl, rfl, rfl, rfl, trivial⟩, ⟨⟨rfl, rfl, rfl, rfl, rfl, trivial⟩, ⟨rfl, rfl, rfl, rfl, rfl, trivial⟩, ⟨rfl, rfl, rfl, rfl, rfl, trivial⟩, rfl, rfl, rfl, trivial⟩, rfl⟩
              · replace h := cF h c
                exact ⟨v524, h, [], ⟨rfl, rfl, rfl, trivial⟩, ⟨⟨rfl, rfl, rfl, rfl, rfl, trivial⟩, ⟨rfl, rfl, rfl, rfl, rfl, trivial⟩, ⟨rfl, rfl, rfl, rfl, rfl, trivial⟩, rfl, rfl, rfl, trivial⟩, rfl⟩
            · rintro v518 h
              unfold m_impl_Rename_j7 at h
              refine .inr ⟨Unit, fun x => ([(6, .ptr 0 0), (8, .ptr 1 0)], [.box 65 [.p (I 0), .tl [], .tl [], .tl []], .box 65 [.p (I a70.scopes_), .row 2 3 0 a70.edges_.length, .row 3 2 0 ((a70.decls_.set a71.toNat (gSpot.mk x846.scope_ a72)).length), .row 4 2 0 v518.length], .fz 165 3 (a70.edges_.map gSEdge.enc), .fz 71 2 ((a70.decls_.set a71.toNat (gSpot.mk x846.scope_ a72)).map gSpot.enc), .fz 71 2 (v518.map gSpot.enc)]), fun x => m_impl_Rename_j9 a70 a71 a72 x846 v518 = some r, ?_, ?_⟩
              · refine .inl ?_
                refine ⟨Int, fun x => ([(3, .ptr 0 0), (6, .ptr 1 0), (8, .ptr 2 0), (74, .p (I ((a70.refs_.map gSpot.enc).length : Int))), (75, .p (I x))], [.box 65 [.p (I a70.scopes_), .p (.lst (a70.edges_.map gSEdge.enc)), .p (.lst (a70.decls_.map gSpot.enc)), .p (.lst (a70.refs_.map gSpot.enc))], .box 65 [.p (I 0), .tl [], .tl [], .tl []], .box 65 [.p (I a70.scopes_), .row 3 3 0 a70.edges_.length, .row 4 2 0 ((a70.decls_.set a71.toNat (gSpot.mk x846.scope_ a72)).length), .row 5 2 0 v518.length], .fz 165 3 (a70.edges_.map gSEdge.enc), .fz 71 2 ((a70.decls_.set a71.toNat (gSpot.mk x846.scope_ a72)).map gSpot.enc), .fz 71 2 (v518.map gSpot.enc)]), fun x k => m_impl_Rename_l10 n a70 a71 a72 x846 v518 k x = some r, ⟨0, n, h, [(888888, 3), (888888, 4), (888888, 5)], ⟨rfl, rfl, rfl, rfl, rfl, trivial⟩, ⟨⟨rfl, rfl, rfl, rfl, rfl, trivial⟩, ⟨rfl, rfl, rfl, rfl, rfl, trivial⟩, ⟨rfl, rfl, rfl, rfl, rfl, trivial⟩, rfl, rfl, rfl, trivial⟩, rfl⟩, ?_⟩
                rintro v521 (_ | k10) h
                · exact ns h
                unfold m_impl_Rename_l10 at h
                refine .inl ?_
                refine .inl ?_
                refine And.intro (fun c => ?_) (fun c => ?_)
                · replace h := cT h c
                  refine .inl ?_
                  refine .inl ?_
                  refine .inl ?_
                  refine ⟨[0, 1, 3, 4, 2, 5, 6, 7], [], by decide +kernel, ?_⟩
                  obtain ⟨r829, hr829, h⟩ := bsm h
                  refine callA (c_impl_Sg_resolve n a70 v521 _ hr829) ?_
                  obtain ⟨r830, hr830, h⟩ := bsm h
                  refine callP (c_impl_Sg_resolve n (gSg.mk a70.scopes_ a70.edges_ (a70.decls_.set a71.toNat (gSpot.mk x846.scope_ a72)) v518) v521 _ hr830) (fun K hk => Exists.intro _ (And.intro (rowN rfl (show a70.edges_.length = (a70.edges_.map gSEdge.enc).length by simp)) (Exists.intro _ (And.intro (rowN rfl (show (a70.decls_.set a71.toNat (gSpot.mk x846.scope_ a72)).length = ((a70.decls_.set a71.toNat (gSpot.mk x846.scope_ a72)).map gSpot.enc).length by simp)) (Exists.intro _ (And.intro (rowN rfl (show v518.length = (v518.map gSpot.enc).length by simp)) hk)))))) ?_
                  obtain ⟨r831, hr831, h⟩ := bsm h
                  refine callA (c_slices_Equal___int_int_ n r829 r830 _ hr831) ?_
                  refine And.intro (fun c => ?_) (fun c => ?_)
                  · replace h := cT h c
                    refine .inl ?_
                    refine .inl ?_
                    replace h := Option.some.inj h
                    subst h
                    exact ⟨[.p ((gSg.mk 0 [] [] []).enc), .p (I 12)], [], ⟨[], ⟨rfl, rfl, trivial⟩, trivial, rfl⟩, rfl, rfl, rfl⟩
                  · replace h := cF h c
                    exact ⟨(wr .i64 (v521 + 1)), k10, h, Nat.lt_succ_self _, [], ⟨rfl, rfl, rfl, rfl, rfl, trivial⟩, ⟨⟨rfl, rfl, rfl, rfl, rfl, trivial⟩, ⟨rfl, rfl, rfl, rfl, rfl, trivial⟩, ⟨rfl, rfl, rfl, rfl, rfl, trivial⟩, rfl, rfl, rfl, trivial⟩, rfl⟩
                · replace h := cF h c
                  exact ⟨(), h, [(999999, 1), (999999, 2), (999999, 3), (999999, 4), (999999, 5)], ⟨rfl, rfl, trivial⟩, ⟨⟨rfl, rfl, rfl, rfl, rfl, trivial⟩, ⟨rfl, rfl, rfl, rfl, rfl, trivial⟩, rfl, rfl, rfl, trivial⟩, rfl⟩
              · rintro _ h
                unfold m_impl_Rename_j9 at h
                refine .inl ?_
                refine .inl (Exists.intro _ (And.intro (rowN rfl (show a70.edges_.length = (a70.edges_.map gSEdge.enc).length by simp)) (Exists.intro _ (And.intro (rowN rfl (show (a70.decls_.set a71.toNat (gSpot.mk x846.scope_ a72)).length = ((a70.decls_.set a71.toNat (gSpot.mk x846.scope_ a72)).map gSpot.enc).length by simp)) (Exists.intro _ (And.intro (rowN rfl (show v518.length = (v518.map gSpot.enc).length by simp)) ?_))))))
                replace h := Option.some.inj h
                subst h
                exact ⟨[.p ((gSg.mk a70.scopes_ a70.edges_ (a70.decls_.set a71.toNat (gSpot.mk x846.scope_ a72)) v518).enc), .p (I 0)], [], ⟨[], ⟨rfl, rfl, trivial⟩, trivial, rfl⟩, rfl, rfl, rfl⟩
def m_impl_Resolve_j2 (n : Nat) (a73 : gSg) (a74 : Int) (v528 : Bool) : Option (List Int × Int) :=
  bif v528 then (
    some ([], 4))
  else (
    (m_impl_Sg_resolve n a73 a74).bind fun r841 =>
    bif (((r841.map I).length : Int) == 0) then (
      some ([], 8))
    else (
      some (r841, 0)))
def m_impl_Resolve (n : Nat) (a73 : gSg) (a74 : Int) : Option (List Int × Int) :=
  (m_impl_SgOK n a73).bind fun r840 =>
  bif (!r840) then (
    some ([], 1))
  else (
    bif (decide (a74 < 0)) then (
      m_impl_Resolve_j2 n a73 a74 true)
    else (
      m_impl_Resolve_j2 n a73 a74 (decide (a74 ≥ ((a73.refs_.map gSpot.enc).length : Int)))))
theorem c_impl_Resolve (n : Nat) (a73 : gSg) (a74 : Int) (r : List Int × Int) (h : m_impl_Resolve n a73 a74 = some r) : FnP Try.prog 40 [a73.enc, I a74] [.lst (r.1.map I), I r.2] := by
  unfold m_impl_Resolve at h
  refine fn_introJ Try.func40 rfl rfl rfl ?_
  refine .inl ?_
  refine .inl ?_
  refine .inl ?_
  obtain ⟨r840, hr840, h⟩ := bsm h
  refine callA (c_impl_SgOK n a73 _ hr840) ?_
  refine And.intro (fun c => ?_) (fun c => ?_)
  · replace h := cT h c
    refine .inl ?_
    refine .inl ?_
    replace h := Option.some.inj h
    subst h
    exact ⟨[.p (.lst ([].map I)), .p (I 1)], [], ⟨[], ⟨rfl, rfl, trivial⟩, trivial, rfl⟩, rfl, rfl, rfl⟩
  · replace h := cF h c
    refine .inl ?_
    refine .inr ⟨Bool, fun x => ([(1, .p (I a74)), (2, .ptr 0 0), (18, .p (B x))], [.box 65 [.p (I a73.scopes_), .p (.lst (a73.edges_.map gSEdge.enc)), .p (.lst (a73.decls_.map gSpot.enc)), .p (.lst (a73.refs_.map gSpot.enc))]]), fun x => m_impl_Resolve_j2 n a73 a74 x = some r, ?_, ?_⟩
    · refine And.intro (fun c => ?_) (fun c => ?_)
      · replace h := cF h c
        refine And.intro (fun _ => ?_) (fun c => absurd c (by decide))
        refine And.intro (fun _ => ?_) (fun c => absurd c (by decide))
        refine And.intro (fun _ => ?_) (fun c => absurd c (by decide))
        refine And.intro (fun _ => ?_) (fun c => absurd c (by decide))
        refine And.intro (fun c => absurd c (by decide)) (fun _ => ?_)
        exact ⟨(decide (a74 ≥ ((a73.refs_.map gSpot.enc).length : Int))), h, [], ⟨rfl, rfl, rfl, trivial⟩, ⟨⟨rfl, rfl, rfl, rfl, rfl, trivial⟩, trivial⟩, rfl⟩
      · replace h := cT h c
        refine And.intro (fun c => absurd c (by decide)) (fun _ => ?_)
        refine And.intro (fun c => absurd c (by decide)) (fun _ => ?_)
        refine And.intro (fun c => absurd c (by decide)) (fun _ => ?_)
        refine And.intro (fun c => absurd c (by decide)) (fun _ => ?_)
        refine And.intro (fun _ => ?_) (fun c => absurd c (by decide))
        exact ⟨true, h, [], ⟨rfl, rfl, rfl, trivial⟩, ⟨⟨rfl, rfl, rfl, rfl, rfl, trivial⟩, trivial⟩, rfl⟩
    · rintro v528 h
      unfold m_impl_Resolve_j2 at h
      refine And.intro (fun c => ?_) (fun c => ?_)
      · replace h := cT h c
        refine .inl ?_
        refine .inl ?_
        replace h := Option.some.inj h
        subst h
        exact ⟨[.p (.lst ([].map I)), .p (I 4)], [], ⟨[], ⟨rfl, rfl, trivial⟩, trivial, rfl⟩, rfl, rfl, rfl⟩
      · replace h := cF h c
        refine .inl ?_
        obtain ⟨r841, hr841, h⟩ := bsm h
        refine callA (c_impl_Sg_resolve n a73 a74 _ hr841) ?_
        refine .inl ?_
        refine .inl ?_
        refine And.intro (fun c => ?_) (fun c => ?_)
        · replace h := cT h c
          refine .inl ?_
          refine .inl ?_
          replace h := Option.some.inj h
          subst h
          exact ⟨[.p (.lst ([].map I)), .p (I 8)], [], ⟨[], ⟨rfl, rfl, trivial⟩, trivial, rfl⟩, rfl, rfl, rfl⟩
        · replace h := cF h c
          refine .inl ?_
          replace h := Option.some.inj h
          subst h
          exact ⟨[.p (.lst (r841.map I)), .p (I 0)], [], ⟨[], ⟨rfl, rfl, trivial⟩, trivial, rfl⟩, rfl, rfl, rfl⟩
def m_laws_sameInts_j2 : Option Bool :=
  some true
def m_laws_sameInts_l3 (a75 : List Int) (a76 : List Int) : Nat → Int → Option Bool
  | 0, _ => none
  | k3 + 1, v531 =>
    bif (decide (v531 < ((a75.map I).length : Int))) then (
      (ix a75 v531).bind fun x875 =>
      (ix a76 v531).bind fun x876 =>
      bif (x875 != x876) then (
        some false)
      else (
        (m_laws_sameInts_l3 a75 a76 k3) (wr .i64 (v531 + 1))))
    else (
      m_laws_sameInts_j2)
def m_laws_sameInts (n : Nat) (a75 : List Int) (a76 : List Int) : Option Bool :=
  bif (((a75.map I).length : Int) != ((a76.map I).length : Int)) then (
    some false)
  else (
    m_laws_sameInts_l3 a75 a76 n 0)
theorem c_laws_sameInts (n : Nat) (a75 : List Int) (a76 : List Int) (r : Bool) (h : m_laws_sameInts n a75 a76 = some r) : FnP Try.prog 41 [.lst (a75.map I), .lst (a76.map I)] [B r] := by
  unfold m_laws_sameInts at h
  refine fn_introJ Try.func41 rfl rfl rfl ?_
  refine .inl ?_
  refine .inl ?_
  refine .inl ?_
  refine And.intro (fun c => ?_) (fun c => ?_)
  · replace h := cT h c
    refine .inl ?_
    replace h := Option.some.inj h
    subst h
    exact ⟨[.p (B false)], [], ⟨[], ⟨rfl, trivial⟩, trivial, rfl⟩, rfl, rfl, rfl⟩
  · replace h := cF h c
    refine .inr ⟨Unit, fun x => ([], []), fun x => m_laws_sameInts_j2 = some r, ?_, ?_⟩
    · refine .inl ?_
      refine ⟨Int, fun x => ([(0, .p (.lst (a75.map I))), (1, .p (.lst (a76.map I))), (5, .p (I x))], []), fun x k => m_laws_sameInts_l3 a75 a76 k x = some r, ⟨0, n, h, [], ⟨rfl, rfl, rfl, trivial⟩, trivial, rfl⟩, ?_⟩
      rintro v531 (_ | k3) h
      · exact ns h
      unfold m_laws_sameInts_l3 at h
      refine .inl ?_
      refine .inl ?_
      refine And.intro (fun c => ?_) (fun c => ?_)
      · replace h := cT h c
        refine .inl ?_
        refine .inl ?_
        refine ⟨[0, 1, 2, 3, 4, 5, 6, 7, 8], [], by decide +kernel, ?_⟩
        obtain ⟨x875, hx875, h⟩ := bsm h
        refine And.intro (ix0 hx875) (Exists.intro _ (And.intro (gm (ixg hx875)) (And.intro rfl ?_)))
        obtain ⟨x876, hx876, h⟩ := bsm h
        refine And.intro (ix0 hx876) (Exists.intro _ (And.intro (gm (ixg hx876)) (And.intro rfl ?_)))
        refine And.intro (fun c => ?_) (fun c => ?_)
        · replace h := cT h c
          refine .inl ?_
          replace h := Option.some.inj h
          subst h
          exact ⟨[.p (B false)], [], ⟨[], ⟨rfl, trivial⟩, trivial, rfl⟩, rfl, rfl, rfl⟩
        · replace h := cF h c
          exact ⟨(wr .i64 (v531 + 1)), k3, h, Nat.lt_succ_self _, [], ⟨rfl, rfl, rfl, trivial⟩, trivial, rfl⟩
      · replace h := cF h c
        exact ⟨(), h, [], trivial, trivial, rfl⟩
    · rintro _ h
      unfold m_laws_sameInts_j2 at h
      refine .inl ?_
      replace h := Option.some.inj h
      subst h
      exact ⟨[.p (B true)], [], ⟨[], ⟨rfl, trivial⟩, trivial, rfl⟩, rfl, rfl, rfl⟩
def m_laws_FnRenamed_j2 : Option Bool :=
  some true
def m_laws_FnRenamed_l3 (n : Nat) (r843 : gSg × Int × ByteArray) (r845 : gSg × Int) : Nat → Int → Option Bool
  | 0, _ => none
  | k3 + 1, v535 =>
    bif (decide (v535 < ((r843.1.refs_.map gSpot.enc).length : Int))) then (
      (m_impl_Resolve n r843.1 v535).bind fun r890 =>
      (m_impl_Resolve n r845.1 v535).bind fun r891 =>
      bif (r890.2 != r891.2) then (
        some false)
      else (
        (m_laws_sameInts n r890.1 r891.1).bind fun r893 =>
        bif (!r893) then (
          some false)
        else (
          (ix r845.1.refs_ v535).bind fun x925 =>
          (ix r843.1.refs_ v535).bind fun x926 =>
          bif (x925.scope_ != x926.scope_) then (
            some false)
          else (
            (m_laws_FnRenamed_l3 n r843 r845 k3) (wr .i64 (v535 + 1))))))
    else (
      m_laws_FnRenamed_j2)
def m_laws_FnRenamed (n : Nat) (a77 : List UInt8) : Option Bool :=
  (m_laws_big n a77).bind fun r842 =>
  bif r842 then (
    some true)
  else (
    (m_spec_DrawRename n a77).bind fun r843 =>
    (m_spec_Rename n r843.1 r843.2.1 r843.2.2).bind fun r844 =>
    (m_impl_Rename n r843.1 r843.2.1 r843.2.2).bind fun r845 =>
    bif (r845.2 != r844.2) then (
      some false)
    else (
      bif (((r845.1.refs_.map gSpot.enc).length : Int) != ((r844.1.refs_.map gSpot.enc).length : Int)) then (
        some false)
      else (
        bif (((r845.1.decls_.map gSpot.enc).length : Int) != ((r844.1.decls_.map gSpot.enc).length : Int)) then (
          some false)
        else (
          bif (r845.2 != 0) then (
            some true)
          else (
            (ix r845.1.decls_ r843.2.1).bind fun x878 =>
            bif (!decide (x878.name_ = r843.2.2)) then (
              some false)
            else (
              bif (r845.1.scopes_ != r843.1.scopes_) then (
                some false)
              else (
                bif (((r845.1.edges_.map gSEdge.enc).length : Int) != ((r843.1.edges_.map gSEdge.enc).length : Int)) then (
                  some false)
                else (
                  m_laws_FnRenamed_l3 n r843 r845 n 0))))))))
theorem c_laws_FnRenamed (n : Nat) (a77 : List UInt8) (r : Bool) (h : m_laws_FnRenamed n a77 = some r) : FnP Try.prog 7 [.lst (bl a77)] [B r] := by
  unfold m_laws_FnRenamed at h
  refine fn_introJ Try.func7 rfl rfl rfl ?_
  refine .inl ?_
  refine .inl ?_
  refine .inl ?_
  obtain ⟨r842, hr842, h⟩ := bsm h
  refine callA (c_laws_big n a77 _ hr842) ?_
  refine And.intro (fun c => ?_) (fun c => ?_)
  · replace h := cT h c
    refine .inl ?_
    replace h := Option.some.inj h
    subst h
    exact ⟨[.p (B true)], [], ⟨[], ⟨rfl, trivial⟩, trivial, rfl⟩, rfl, rfl, rfl⟩
  · replace h := cF h c
    refine .inl ?_
    obtain ⟨r843, hr843, h⟩ := bsm h
    refine callA (c_spec_DrawRename n a77 _ hr843) ?_
    refine .inl ?_
    obtain ⟨r844, hr844, h⟩ := bsm h
    refine callA (c_spec_Rename n r843.1 r843.2.1 r843.2.2 _ hr844) ?_
    refine .inl ?_
    obtain ⟨r845, hr845, h⟩ := bsm h
    refine callA (c_impl_Rename n r843.1 r843.2.1 r843.2.2 _ hr845) ?_
    refine .inl ?_
    refine .inl ?_
    refine And.intro (fun c => ?_) (fun c => ?_)
    · replace h := cF h c
      refine And.intro (fun _ => ?_) (fun c => absurd c (by decide))
      refine And.intro (fun _ => ?_) (fun c => absurd c (by decide))
      refine And.intro (fun _ => ?_) (fun c => absurd c (by decide))
      refine And.intro (fun _ => ?_) (fun c => absurd c (by decide))
      refine And.intro (fun _ => ?_) (fun c => absurd c (by decide))
      refine And.intro (fun _ => ?_) (fun c => absurd c (by decide))
      refine And.intro (fun c => absurd c (by decide)) (fun _ => ?_)
      refine And.intro (fun c => ?_) (fun c => ?_)
      · replace h := cF h c
        refine And.intro (fun _ => ?_) (fun c => absurd c (by decide))
        refine And.intro (fun _ => ?_) (fun c => absurd c (by decide))
        refine And.intro (fun _ => ?_) (fun c => absurd c (by decide))
        refine And.intro (fun _ => ?_) (fun c => absurd c (by decide))
        refine And.intro (fun _ => ?_) (fun c => absurd c (by decide))
        refine And.intro (fun _ => ?_) (fun c => absurd c (by decide))
        refine And.intro (fun c => absurd c (by decide)) (fun _ => ?_)
        refine And.intro (fun c => ?_) (fun c => ?_)
        · replace h := cT h c
          refine .inl ?_
          replace h := Option.some.inj h
          subst h
          exact ⟨[.p (B false)], [], ⟨[], ⟨rfl, trivial⟩, trivial, rfl⟩, rfl, rfl, rfl⟩
        · replace h := cF h c
          refine .inl ?_
          refine .inl ?_
          refine And.intro (fun c => ?_) (fun c => ?_)
          · replace h := cT h c
            refine .inl ?_
            replace h := Option.some.inj h
            subst h
            exact ⟨[.p (B true)], [], ⟨[], ⟨rfl, trivial⟩, trivial, rfl⟩, rfl, rfl, rfl⟩
          · replace h := cF h c
            refine .inl ?_
            refine .inl ?_
            obtain ⟨x878, hx878, h⟩ := bsm h
            refine And.intro (ix0 hx878) (Exists.intro _ (And.intro (gm (ixg hx878)) (And.intro rfl ?_)))
            refine And.intro (fun c => ?_) (fun c => ?_)
            · replace h := cF h c
              refine And.intro (fun _ => ?_) (fun c => absurd c (by decide))
              refine And.intro (fun _ => ?_) (fun c => absurd c (by decide))
              refine And.intro (fun _ => ?_) (fun c => absurd c (by decide))
              refine And.intro (fun _ => ?_) (fun c => absurd c (by decide))
              refine And.intro (fun c => absurd c (by decide)) (fun _ => ?_)
              refine And.intro (fun c => ?_) (fun c => ?_)
              · replace h := cF h c
                refine And.intro (fun _ => ?_) (fun c => absurd c (by decide))
                refine And.intro (fun _ => ?_) (fun c => absurd c (by decide))
                refine And.intro (fun _ => ?_) (fun c => absurd c (by decide))
                refine And.intro (fun _ => ?_) (fun c => absurd c (by decide))
                refine And.intro (fun _ => ?_) (fun c => absurd c (by decide))
                refine And.intro (fun _ => ?_) (fun c => absurd c (by decide))
                refine And.intro (fun c => absurd c (by decide)) (fun _ => ?_)
                refine And.intro (fun c => ?_) (fun c => ?_)
                · replace h := cT h c
                  refine .inl ?_
                  replace h := Option.some.inj h
                  subst h
                  exact ⟨[.p (B false)], [], ⟨[], ⟨rfl, trivial⟩, trivial, rfl⟩, rfl, rfl, rfl⟩
                · replace h := cF h c
                  refine .inr ⟨Unit, fun x => ([], []), fun x => m_laws_FnRenamed_j2 = some r, ?_, ?_⟩
                  · refine .inl ?_
                    refine ⟨Int, fun x => ([(3, .ptr 0 0), (8, .ptr 1 0), (10, .p (I x))], [.box 65 [.p (I r843.1.scopes_), .p (.lst (r843.1.edges_.map gSEdge.enc)), .p (.lst (r843.1.decls_.map gSpot.enc)), .p (.lst (r843.1.refs_.map gSpot.enc))], .box 65 [.p (I r845.1.scopes_), .p (.lst (r845.1.edges_.map gSEdge.enc)), .p (.lst (r845.1.decls_.map gSpot.enc)), .p (.lst (r845.1.refs_.map gSpot.enc))]]), fun x k => m_laws_FnRenamed_l3 n r843 r845 k x = some r, ⟨0, n, h, [(999999, 0), (999999, 2)], ⟨rfl, rfl, rfl, trivial⟩, ⟨⟨rfl, rfl, rfl, rfl, rfl, trivial⟩, ⟨rfl, rfl, rfl, rfl, rfl, trivial⟩, trivial⟩, rfl⟩, ?_⟩
                    rintro v535 (_ | k3) h
                    · exact ns h
                    unfold m_laws_FnRenamed_l3 at h
                    refine .inl ?_
                    refine .inl ?_
                    refine And.intro (fun c => ?_) (fun c => ?_)
                    · replace h := cT h c
                      refine .inl ?_
                      refine .inl ?_
                      obtain ⟨r890, hr890, h⟩ := bsm h
                      refine callA (c_impl_Resolve n r843.1 v535 _ hr890) ?_
                      refine .inl ?_
                      obtain ⟨r891, hr891, h⟩ := bsm h
                      refine callA (c_impl_Resolve n r845.1 v535 _ hr891) ?_
                      refine .inl ?_
                      refine ⟨[0, 1, 2, 3, 4, 5, 6, 7, 8, 9, 10, 11, 12, 13, 14, 15, 16, 17, 18, 19, 20, 21, 22, 23], [], by decide +kernel, ?_⟩
                      refine And.intro (fun c => ?_) (fun c => ?_)
                      · replace h := cF h c
                        refine And.intro (fun _ => ?_) (fun c => absurd c (by decide))
                        refine And.intro (fun _ => ?_) (fun c => absurd c (by decide))
                        obtain ⟨r893, hr893, h⟩ := bsm h
                        refine callA (c_laws_sameInts n r890.1 r891.1 _ hr893) ?_
                        refine And.intro (fun _ => ?_) (fun c => absurd c (by decide))
                        refine And.intro (fun c => absurd c (by decide)) (fun _ => ?_)
                        refine And.intro (fun c => ?_) (fun c => ?_)
                        · replace h := cF h c
                          refine And.intro (fun _ => ?_) (fun c => absurd c (by decide))
                          refine And.intro (fun _ => ?_) (fun c => absurd c (by decide))
                          refine And.intro (fun _ => ?_) (fun c => absurd c (by decide))
                          obtain ⟨x925, hx925, h⟩ := bsm h
                          refine And.intro (ix0 hx925) (Exists.intro _ (And.intro (gm (ixg hx925)) (And.intro rfl ?_)))
                          refine And.intro (fun _ => ?_) (fun c => absurd c (by decide))
                          refine And.intro (fun _ => ?_) (fun c => absurd c (by decide))
                          refine And.intro (fun _ => ?_) (fun c => absurd c (by decide))
                          refine And.intro (fun _ => ?_) (fun c => absurd c (by decide))
                          refine And.intro (fun _ => ?_) (fun c => absurd c (by decide))
                          refine And.intro (fun _ => ?_) (fun c => absurd c (by decide))
                          obtain ⟨x926, hx926, h⟩ := bsm h
                          refine And.intro (ix0 hx926) (Exists.intro _ (And.intro (gm (ixg hx926)) (And.intro rfl ?_)))
                          refine And.intro (fun _ => ?_) (fun c => absurd c (by decide))
                          refine And.intro (fun _ => ?_) (fun c => absurd c (by decide))
                          refine And.intro (fun _ => ?_) (fun c => absurd c (by decide))
                          refine And.intro (fun c => absurd c (by decide)) (fun _ => ?_)
                          refine And.intro (fun c => ?_) (fun c => ?_)
                          · replace h := cT h c
                            refine .inl ?_
                            replace h := Option.some.inj h
                            subst h
                            exact ⟨[.p (B false)], [], ⟨[], ⟨rfl, trivial⟩, trivial, rfl⟩, rfl, rfl, rfl⟩
                          · replace h := cF h c
                            exact ⟨(wr .i64 (v535 + 1)), k3, h, Nat.lt_succ_self _, [], ⟨rfl, rfl, rfl, trivial⟩, ⟨⟨rfl, rfl, rfl, rfl, rfl, trivial⟩, ⟨rfl, rfl, rfl, rfl, rfl, trivial⟩, trivial⟩, rfl⟩
                        · replace h := cT h c
                          refine And.intro (fun c => absurd c (by decide)) (fun _ => ?_)
                          refine And.intro (fun c => absurd c (by decide)) (fun _ => ?_)
                          refine And.intro (fun c => absurd c (by decide)) (fun _ => ?_)
                          refine And.intro (fun c => absurd c (by decide)) (fun _ => ?_)
                          refine And.intro (fun c => absurd c (by decide)) (fun _ => ?_)
                          refine And.intro (fun c => absurd c (by decide)) (fun _ => ?_)
                          refine And.intro (fun c => absurd c (by decide)) (fun _ => ?_)
                          refine And.intro (fun c => absurd c (by decide)) (fun _ => ?_)
                          refine And.intro (fun c => absurd c (by decide)) (fun _ => ?_)
                          refine And.intro (fun c => absurd c (by decide)) (fun _ => ?_)
                          refine And.intro (fun c => absurd c (by decide)) (fun _ => ?_)
                          refine And.intro (fun c => absurd c (by decide)) (fun _ => ?_)
                          refine And.intro (fun _ => ?_) (fun c => absurd c (by decide))
                          refine And.intro (fun _ => ?_) (fun c => absurd c (by decide))
                          refine .inl ?_
                          replace h := Option.some.inj h
                          subst h
                          exact ⟨[.p (B false)], [], ⟨[], ⟨rfl, trivial⟩, trivial, rfl⟩, rfl, rfl, rfl⟩
                      · replace h := cT h c
                        refine And.intro (fun c => absurd c (by decide)) (fun _ => ?_)
                        refine And.intro (fun c => absurd c (by decide)) (fun _ => ?_)
                        refine And.intro (fun c => absurd c (by decide)) (fun _ => ?_)
                        refine And.intro (fun _ => ?_) (fun c => absurd c (by decide))
                        refine And.intro (fun c => absurd c (by decide)) (fun _ => ?_)
                        refine And.intro (fun c => absurd c (by decide)) (fun _ => ?_)
                        refine And.intro (fun c => absurd c (by decide)) (fun _ => ?_)
                        refine And.intro (fun c => absurd c (by decide)) (fun _ => ?_)
                        refine And.intro (fun c => absurd c (by decide)) (fun _ => ?_)
                        refine And.intro (fun c => absurd c (by decide)) (fun _ => ?_)
                        refine And.intro (fun c => absurd c (by decide)) (fun _ => ?_)
                        refine And.intro (fun c => absurd c (by decide)) (fun _ => ?_)
                        refine And.intro (fun c => absurd c (by decide)) (fun _ => ?_)
                        refine And.intro (fun c => absurd c (by decide)) (fun _ => ?_)
                        refine And.intro (fun c => absurd c (by decide)) (fun _ => ?_)
                        refine And.intro (fun c => absurd c (by decide)) (fun _ => ?_)
                        refine And.intro (fun c => absurd c (by decide)) (fun _ => ?_)
                        refine And.intro (fun _ => ?_) (fun c => absurd c (by decide))
                        refine And.intro (fun _ => ?_) (fun c => absurd c (by decide))
                        refine .inl ?_
                        replace h := Option.some.inj h
                        subst h
                        exact ⟨[.p (B false)], [], ⟨[], ⟨rfl, trivial⟩, trivial, rfl⟩, rfl, rfl, rfl⟩
                    · replace h := cF h c
                      exact ⟨(), h, [], trivial, trivial, rfl⟩
                  · rintro _ h
                    unfold m_laws_FnRenamed_j2 at h
                    refine .inl ?_
                    replace h := Option.some.inj h
                    subst h
                    exact ⟨[.p (B true)], [], ⟨[], ⟨rfl, trivial⟩, trivial, rfl⟩, rfl, rfl, rfl⟩
              · replace h := cT h c
                refine And.intro (fun c => absurd c (by decide)) (fun _ => ?_)
                refine And.intro (fun c => absurd c (by decide)) (fun _ => ?_)
                refine And.intro (fun c => absurd c (by decide)) (fun _ => ?_)
                refine And.intro (fun c => absurd c (by decide)) (fun _ => ?_)
                refine And.intro (fun c => absurd c (by decide)) (fun _ => ?_)
                refine And.intro (fun c => absurd c (by decide)) (fun _ => ?_)
                refine And.intro (fun _ => ?_) (fun c => absurd c (by decide))
                refine And.intro (fun _ => ?_) (fun c => absurd c (by decide))
                refine .inl ?_
                replace h := Option.some.inj h
                subst h
                exact ⟨[.p (B false)], [], ⟨[], ⟨rfl, trivial⟩, trivial, rfl⟩, rfl, rfl, rfl⟩
            · replace h := cT h c
              refine And.intro (fun c => absurd c (by decide)) (fun _ => ?_)
              refine And.intro (fun c => absurd c (by decide)) (fun _ => ?_)
              refine And.intro (fun c => absurd c (by decide)) (fun _ => ?_)
              refine And.intro (fun c => absurd c (by decide)) (fun _ => ?_)
              refine And.intro (fun _ => ?_) (fun c => absurd c (by decide))
              refine And.intro (fun c => absurd c (by decide)) (fun _ => ?_)
              refine And.intro (fun c => absurd c (by decide)) (fun _ => ?_)
              refine And.intro (fun c => absurd c (by decide)) (fun _ => ?_)
              refine And.intro (fun c => absurd c (by decide)) (fun _ => ?_)
              refine And.intro (fun c => absurd c (by decide)) (fun _ => ?_)
              refine And.intro (fun c => absurd c (by decide)) (fun _ => ?_)
              refine And.intro (fun c => absurd c (by decide)) (fun _ => ?_)
              refine And.intro (fun _ => ?_) (fun c => absurd c (by decide))
              refine And.intro (fun _ => ?_) (fun c => absurd c (by decide))
              refine .inl ?_
              replace h := Option.some.inj h
              subst h
              exact ⟨[.p (B false)], [], ⟨[], ⟨rfl, trivial⟩, trivial, rfl⟩, rfl, rfl, rfl⟩
      · replace h := cT h c
        refine And.intro (fun c => absurd c (by decide)) (fun _ => ?_)
        refine And.intro (fun c => absurd c (by decide)) (fun _ => ?_)
        refine And.intro (fun c => absurd c (by decide)) (fun _ => ?_)
        refine And.intro (fun c => absurd c (by decide)) (fun _ => ?_)
        refine And.intro (fun c => absurd c (by decide)) (fun _ => ?_)
        refine And.intro (fun c => absurd c (by decide)) (fun _ => ?_)
        refine And.intro (fun _ => ?_) (fun c => absurd c (by decide))
        refine And.intro (fun _ => ?_) (fun c => absurd c (by decide))
        refine .inl ?_
        replace h := Option.some.inj h
        subst h
        exact ⟨[.p (B false)], [], ⟨[], ⟨rfl, trivial⟩, trivial, rfl⟩, rfl, rfl, rfl⟩
    · replace h := cT h c
      refine And.intro (fun c => absurd c (by decide)) (fun _ => ?_)
      refine And.intro (fun c => absurd c (by decide)) (fun _ => ?_)
      refine And.intro (fun c => absurd c (by decide)) (fun _ => ?_)
      refine And.intro (fun c => absurd c (by decide)) (fun _ => ?_)
      refine And.intro (fun c => absurd c (by decide)) (fun _ => ?_)
      refine And.intro (fun c => absurd c (by decide)) (fun _ => ?_)
      refine And.intro (fun _ => ?_) (fun c => absurd c (by decide))
      refine And.intro (fun c => absurd c (by decide)) (fun _ => ?_)
      refine And.intro (fun c => absurd c (by decide)) (fun _ => ?_)
      refine And.intro (fun c => absurd c (by decide)) (fun _ => ?_)
      refine And.intro (fun c => absurd c (by decide)) (fun _ => ?_)
      refine And.intro (fun c => absurd c (by decide)) (fun _ => ?_)
      refine And.intro (fun c => absurd c (by decide)) (fun _ => ?_)
      refine And.intro (fun c => absurd c (by decide)) (fun _ => ?_)
      refine And.intro (fun _ => ?_) (fun c => absurd c (by decide))
      refine And.intro (fun _ => ?_) (fun c => absurd c (by decide))
      refine .inl ?_
      replace h := Option.some.inj h
      subst h
      exact ⟨[.p (B false)], [], ⟨[], ⟨rfl, trivial⟩, trivial, rfl⟩, rfl, rfl, rfl⟩
end Go.Proofs.Ytegpjjnedbbpjaa.Z
