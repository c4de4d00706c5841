/- Printed: models and contracts. -/
import Derived.Test.YtegpjjnedbbpjaaRn1a
set_option linter.unusedVariables false
set_option linter.unusedSimpArgs false
set_option linter.unnecessarySimpa false
set_option maxRecDepth 100000
set_option maxHeartbeats 8000000
namespace Go.Proofs.Ytegpjjnedbbpjaa.Z
open Go Go.RowKit Go.Proofs.Sy Go.Proofs
theorem c_spec_Rename (n : Nat) (a47 : gSg) (a48 : Int) (a49 : ByteArray) (r : gSg × Int) (h : m_spec_Rename n a47 a48 a49 = some r) : FnP Try.prog 38 [a47.enc, I a48, S a49] [r.1.enc, I r.2] := by
  unfold m_spec_Rename at h
  refine fn_introJ Try.func38 rfl rfl rfl ?_
  refine .inl ?_
  refine .inl ?_
  refine .inr ⟨Bool, fun x => ([(1, .p (I a48)), (2, .p (S a49)), (3, .ptr 0 0), (6, .ptr 1 0), (19, .p (B x))], [.box 65 [.p (I a47.scopes_), .p (.lst (a47.edges_.map gSEdge.enc)), .p (.lst (a47.decls_.map gSpot.enc)), .p (.lst (a47.refs_.map gSpot.enc))], .box 65 [.p (I 0), .tl [], .tl [], .tl []]]), fun x => m_spec_Rename_j2 n a47 a48 a49 x = some r, ?_, ?_⟩
  · obtain ⟨r602, hr602, h⟩ := bsm h
    refine callA (c_spec_SgOK n a47 _ hr602) ?_
    refine And.intro (fun c => ?_) (fun c => ?_)
    · replace h := cF h c
      refine And.intro (fun _ => ?_) (fun c => absurd c (by decide))
      obtain ⟨r603, hr603, h⟩ := bsm h
      refine callA (c_spec_l01Name n a49 _ hr603) ?_
      refine And.intro (fun _ => ?_) (fun c => absurd c (by decide))
      refine And.intro (fun c => absurd c (by decide)) (fun _ => ?_)
      exact ⟨(!r603), h, [], ⟨rfl, rfl, rfl, rfl, rfl, trivial⟩, ⟨⟨rfl, rfl, rfl, rfl, rfl, trivial⟩, ⟨rfl, rfl, rfl, rfl, rfl, trivial⟩, trivial⟩, rfl⟩
    · replace h := cT h c
      refine And.intro (fun c => absurd c (by decide)) (fun _ => ?_)
      refine And.intro (fun c => absurd c (by decide)) (fun _ => ?_)
      refine And.intro (fun _ => ?_) (fun c => absurd c (by decide))
      exact ⟨true, h, [], ⟨rfl, rfl, rfl, rfl, rfl, trivial⟩, ⟨⟨rfl, rfl, rfl, rfl, rfl, trivial⟩, ⟨rfl, rfl, rfl, rfl, rfl, trivial⟩, trivial⟩, rfl⟩
  · rintro v226 h
    unfold m_spec_Rename_j2 at h
    refine And.intro (fun c => ?_) (fun c => ?_)
    · replace h := cT h c
      refine .inl ?_
      refine .inl ?_
      replace h := Option.some.inj h
      subst h
      exact ⟨[.p ((gSg.mk 0 [] [] []).enc), .p (I 1)], [], ⟨[], ⟨rfl, rfl, trivial⟩, trivial, rfl⟩, rfl, rfl, rfl⟩
    · replace h := cF h c
      refine .inl ?_
      refine .inl ?_
      obtain ⟨r529, hr529, h⟩ := bsm h
      refine callA (c_spec_l01Between n a48 0 (wr .i64 (((a47.decls_.map gSpot.enc).length : Int) - 1)) _ hr529) ?_
      refine And.intro (fun c => ?_) (fun c => ?_)
      · replace h := cT h c
        refine .inl ?_
        refine .inl ?_
        replace h := Option.some.inj h
        subst h
        exact ⟨[.p ((gSg.mk 0 [] [] []).enc), .p (I 4)], [], ⟨[], ⟨rfl, rfl, trivial⟩, trivial, rfl⟩, rfl, rfl, rfl⟩
      · replace h := cF h c
        refine .inr ⟨Unit, fun x => ([(1, .p (I a48)), (2, .p (S a49)), (3, .ptr 0 0), (6, .ptr 1 0), (8, .ptr 2 0)], [.box 65 [.p (I a47.scopes_), .p (.lst (a47.edges_.map gSEdge.enc)), .p (.lst (a47.decls_.map gSpot.enc)), .p (.lst (a47.refs_.map gSpot.enc))], .box 65 [.p (I 0), .tl [], .tl [], .tl []], .box 65 [.p (I a47.scopes_), .row 3 3 0 a47.edges_.length, .row 4 2 0 a47.decls_.length, .row 5 2 0 a47.refs_.length], .row 165 3 (a47.edges_.map gSEdge.enc), .row 71 2 (a47.decls_.map gSpot.enc), .row 71 2 (a47.refs_.map gSpot.enc)]), fun x => m_spec_Rename_j3 n a47 a48 a49 = some r, ?_, ?_⟩
        · refine ⟨[0, 1, 3, 4, 7, 8, 11, 12, 5000, 6000, 6000, 6000, 6000, 6000, 6000, 6000, 6000, 6000, 6000, 6000, 2, 5000, 6000, 6000, 6000, 6000, 6000, 6000, 6000, 6000, 6000, 6000, 6000, 6000, 6000, 6000, 6000, 6000, 6000, 6000, 6000, 6000, 6000, 6000, 6000, 6000, 6000, 6000, 6000, 6000, 6000, 6000, 6000, 6000, 6000, 6000, 6000, 6000, 6000, 6000, 6000, 6000, 6000, 6000, 6000, 6000, 6000, 6000, 6000, 6000, 6000, 6000, 6000, 6000, 6000, 6000, 6000, 6000, 6000, 6000, 6000, 6000, 6000, 6000, 6000, 6000, 6000, 6000, 6000, 6000, 6000, 6000, 6000, 6000, 6000, 6000, 6000, 6000, 6000, 6000, 6000, 6000, 6000, 6000, 6000, 6000, 6000, 6000, 6000, 6000, 6000, 6000, 6000, 6000, 6000, 6000, 6000, 6000, 6000, 6000, 6000, 6000, 6000, 6000, 6000, 6000, 6000, 6000, 6000, 6000, 6000, 6000, 6000, 6000, 6000, 6000, 6000, 6000, 6000, 6000, 6000, 6000, 6000, 6000, 6000, 6000, 6000, 6000, 6000, 6000, 6000, 6000, 6000, 6000, 6000, 6000, 6000, 6000, 6000, 6000, 6000, 6000, 6000, 6000, 6000, 6000, 6000, 6000, 6000, 6000, 6000, 6000, 6000, 6000, 6000, 6000, 6000, 6000, 6000, 6000, 6000, 6000, 6000, 6000, 6000, 6000, 6000, 6000, 6000, 6000, 6000, 6000, 6000, 6000, 6000, 6000, 6000, 6000, 6000, 6000, 6000, 6000, 6000, 6000, 6000, 6000, 6000, 6000, 6000, 6000, 6000, 6000, 6000, 6000, 6000, 6000, 6000, 6000, 6000, 6000, 6000, 6000, 6000, 6000, 6000, 6000, 6000, 6000, 6000, 6000, 6000, 6000, 6000, 6000, 6000, 6000, 6000, 6000, 6000, 6000, 6000, 6000, 6000, 6000, 6000, 6000, 6000, 6000, 6000, 6000, 6000, 6000, 6000, 6000, 6000, 6000, 6000, 6000, 6000, 6000, 6000, 6000, 6000, 6000, 6000, 6000, 6000, 6000, 6000, 6000, 6000, 6000, 6000, 6000, 6000, 6000, 6000, 6000, 6000, 6000, 6000, 6000, 6000, 6000, 6000, 6000, 6000, 6000, 6000, 6000, 6000, 6000, 6000, 6000, 6000, 6000, 6000, 6000, 6000, 6000, 6000, 6000, 6000, 6000, 6000, 6000, 6000, 6000, 6000, 6000, 6000, 6000, 6000, 6000, 6000, 6000, 6000, 6000, 6000, 6000, 6000, 6000, 6000, 6000, 6000, 6000, 6000, 6000, 6000, 6000, 6000, 6000, 6000, 6000, 6000, 6000, 6000, 6000, 6000, 6000, 6000, 6000, 6000, 6000, 6000, 6000, 6000, 6000, 6000, 6000, 6000, 6000, 6000, 6000, 6000, 6000, 6000, 6000, 6000, 6000, 6000, 6000, 6000, 6000, 6000, 6000, 6000, 6000, 6000, 6000, 6000, 6000, 6000, 6000, 6000, 6000, 6000, 6000, 6000, 6000, 6000, 6000, 6000, 6000, 6000, 6000, 6000, 6000, 6000, 6000, 6000, 6000, 6000, 6000, 6000, 6000, 6000, 6000, 6000, 6000, 6000, 6000, 6000, 6000, 6000, 6000, 6000, 6000, 6000, 6000, 6000, 6000, 6000, 6000, 6000, 6000, 6000, 6000, 6000, 6000, 6000, 6000, 6000, 6000, 6000, 6000, 6000, 6000, 6000, 6000, 6000, 6000, 6000, 6000, 6000, 6000, 6000, 6000, 6000, 6000, 6000, 6000, 6000, 6000, 6000, 6000, 6000, 6000, 6000, 6000, 6000, 6000, 6000, 6000, 6000, 6000, 6000, 6000, 6000, 6000, 6000, 6000, 6000, 6000, 6000, 6000, 6000, 6000, 6000, 6000, 6000, 6000, 6000, 6000, 6000, 6000, 6000, 6000, 6000, 6000, 6000, 6000, 6000, 6000, 6000, 6000, 6000, 6000, 6000, 6000, 6000, 6000, 6000, 6000, 6000, 6000, 6000, 6000, 6000, 6000, 6000, 6000, 6000, 6000, 6000, 6000, 6000, 6000, 6000, 6000, 6000, 6000, 6000, 6000, 6000, 6000, 6000, 6000, 6000, 6000, 6000, 6000, 6000, 6000, 6000, 6000, 6000, 6000, 6000, 6000, 6000, 6000, 6000, 6000, 6000, 6000, 6000, 6000, 6000, 6000, 6000, 6000, 6000, 6000, 6000, 6000, 6000, 6000, 6000, 6000, 6000, 6000, 6000, 6000, 6000, 6000, 6000, 6000, 6000, 6000, 6000, 6000, 6000, 6000, 6000, 6000, 6000, 6000, 6000, 6000, 6000, 6000, 6000, 6000, 6000, 6000, 6000, 6000, 6000, 6000, 6000, 6000, 6000, 6000, 6000, 6000, 6000, 6000, 6000, 5, 5000, 6000, 6, 5000, 6000, 6000, 6000, 6000, 6000, 6000, 6000, 6000, 6000, 6000, 6000, 6000, 6000, 6000, 6000, 6000, 6000, 6000, 6000, 6000, 6000, 6000, 6000, 9, 5000, 10, 5000, 13, 14, 15, 1016, 15, 13, 14, 1016, 6000, 6000, 6000, 6000, 6000, 15, 10, 13, 14, 1016, 5000, 10, 5000, 9, 5000, 13, 14, 15, 1016, 15, 13, 14, 1016, 6000, 6000, 6000, 6000, 6000, 15, 9, 13, 14, 1016, 6000, 6000, 6000, 6000, 6000, 6000, 6000, 6000, 6000, 6000, 15, 5000, 9, 10, 13, 14, 1016, 10, 9, 13, 14, 1016, 5000, 10, 5000, 6, 5000, 9, 5000, 13, 14, 15, 1016, 15, 13, 14, 1016, 6000, 6000, 6000, 6000, 6000, 15, 9, 13, 14, 1016, 6000, 6000, 6000, 6000, 6000, 6000, 6000, 6000, 6000, 6000, 6000, 6000, 6000, 6000, 6000, 6000, 15, 6, 9, 13, 14, 1016, 6000, 6000, 6000, 6000, 6000, 6000, 6000, 6000, 6000, 6000, 6000, 6000, 6000, 6000, 6000, 6000, 6000, 6000, 6000, 6000, 15, 5000, 6, 5000, 9, 10, 13, 14, 1016, 10, 9, 13, 14, 1016, 6000, 6000, 6000, 6000, 6000, 6000, 10, 6, 9, 13, 14, 1016, 5000, 6000, 6000, 6000, 6000, 6000, 6000, 6000, 6000, 6000, 6000, 6000, 6000, 6000, 6000, 6000, 6000, 6000, 6000, 6000, 6000, 6000, 6000, 6000, 6000, 6000, 6000, 6000, 6000, 6000, 6000, 6000, 6000, 6000, 6000, 6000, 6000, 6000, 6000, 6000, 6000, 6000, 6000, 6000, 6000, 6000, 6000, 6000, 6000, 6000, 6000, 6000, 6000, 6000, 6000, 6000, 6000, 6000, 6000, 6000, 6000, 6000, 6000, 6000, 6000, 6000, 6000, 6000, 6000, 6000, 6000, 6000, 6000, 6000, 6000, 6000, 6000, 6000, 6000, 6000, 6000, 6000, 6000, 6000, 6000, 6000, 6000, 6000, 6000, 6000, 6000, 6000, 6000, 6000, 6000, 6000, 6000, 6000, 6000, 6000, 6000, 6000, 6000, 6000, 6000, 6000, 6000, 6000, 6000, 6000, 6000, 6000, 6000, 6000, 6000, 6000, 6000, 6000, 6000, 6000, 6000, 6000, 6000, 6000, 6000, 6000, 6000, 6000, 6000, 6000, 6000, 6000, 6000, 6000, 6000, 6000, 6000, 6000, 6000, 6000, 6000, 6000, 6000, 6000, 6000, 6000, 6000, 6000, 6000, 6000, 6000, 6000, 6000, 6000, 6000, 6000, 6000, 6000, 6000, 6000, 6000, 6000, 6000, 6000, 6000, 6000, 6000, 6000, 6000, 6000, 6000, 6000, 6000, 6000, 6000, 6000, 6000, 6000, 6000, 6000, 6000, 6000, 6000, 6000, 6000, 6000, 6000, 6000, 6000, 6000, 6, 5000, 6000, 5, 5000, 6000, 6000, 6000, 6000, 6000, 6000, 6000, 6000, 6000, 6000, 6000, 6000, 6000, 6000, 6000, 6000, 6000, 6000, 6000, 6000, 6000, 6000, 6000, 9, 5000, 10, 5000, 13, 14, 15, 1016, 15, 13, 14, 1016, 6000, 6000, 6000, 6000, 6000, 15, 10, 13, 14, 1016, 5000, 10, 5000, 9, 5000, 13, 14, 15, 1016, 15, 13, 14, 1016, 6000, 6000, 6000, 6000, 6000, 15, 9, 13, 14, 1016, 6000, 6000, 6000, 6000, 6000, 6000, 6000, 6000, 6000, 6000, 15, 5000, 9, 10, 13, 14, 1016, 10, 9, 13, 14, 1016, 5000, 10, 5000, 5, 5000, 9, 5000, 13, 14, 15, 1016, 15, 13, 14, 1016, 6000, 6000, 6000, 6000, 6000, 15, 9, 13, 14, 1016, 6000, 6000, 6000, 6000, 6000, 6000, 6000, 6000, 6000, 6000, 6000, 6000, 6000, 6000, 6000, 6000, 15, 5, 9, 13, 14, 1016, 6000, 6000, 6000, 6000, 6000, 6000, 6000, 6000, 6000, 6000, 6000, 6000, 6000, 6000, 6000, 6000, 6000, 6000, 6000, 6000, 15, 5000, 5, 5000, 9, 10, 13, 14, 1016, 10, 9, 13, 14, 1016, 6000, 6000, 6000, 6000, 6000, 6000, 10, 5, 9, 13, 14, 1016, 5000, 10, 5000, 6000, 6000, 6000, 6000, 6000, 6000, 6000, 6000, 6000, 6000, 6000, 6000, 6000, 6000, 6000, 6000, 6000, 6000, 6000, 6000, 6000, 6000, 6000, 6000, 6000, 6000, 6000, 6000, 6000, 6000, 6000, 6000, 6000, 6000, 6000, 6000, 6000, 6000, 6000, 6000, 6000, 6000, 6000, 6000, 6000, 6000, 6000, 5, 5000, 6, 5000, 9, 5000, 13, 14, 15, 1016, 15, 13, 14, 1016, 6000, 6000, 6000, 6000, 6000, 15, 9, 13, 14, 1016, 6000, 6000, 6000, 6000, 6000, 6000, 6000, 6000, 6000, 6000, 6000, 6000, 6000, 6000, 6000, 6000, 15, 6, 9, 13, 14, 1016, 5000, 6, 5000, 5, 5000, 9, 5000, 13, 14, 15, 1016, 15, 13, 14, 1016, 6000, 6000, 6000, 6000, 6000, 15, 9, 13, 14, 1016, 6000, 6000, 6000, 6000, 6000, 6000, 6000, 6000, 6000, 6000, 6000, 6000, 6000, 6000, 6000, 6000, 15, 5, 9, 13, 14, 1016, 6000, 6000, 6000, 6000, 6000, 6000, 6000, 6000, 6000, 6000, 6000, 6000, 6000, 6000, 6000, 6000, 6000, 6000, 6000, 6000, 6000, 6000, 6000, 6000, 6000, 6000, 6000, 6000, 6000, 6000, 6000, 6000, 15, 5000, 5, 6, 9, 13, 14, 1016, 6, 5, 9, 13, 14, 1016, 6000, 6000, 6000, 6000, 6000, 6000, 6000, 6000, 6000, 6000, 6000, 6000, 6000, 6000, 6000, 6000, 6000, 6000, 6000, 6000, 6000, 6000, 6000, 6000, 6000, 6000, 6000, 6000, 6000, 6000, 6000, 6000, 6000, 6000, 6000, 6000, 6000, 6000, 6000, 6000, 6000, 6000, 6000, 6000, 6000, 6000, 6000, 6000, 6000, 6000, 6000, 6000, 6000, 6000, 6000, 6000, 6000, 6000, 6000, 6000, 6000, 6000, 6000, 6000, 6000, 6000, 6000, 6000, 6000, 6000, 6000, 6000, 6000, 6000, 6000, 6000, 6000, 6000, 6000, 6000, 15, 5000, 6000, 6000, 6000, 6000, 6000, 6000, 6000, 6000, 6000, 6000, 6000, 6000, 6000, 6000, 6000, 6000, 6000, 6000, 6000, 6000, 6000, 6000, 6000, 6000, 6000, 6000, 6000, 5, 5000, 6, 5000, 9, 10, 13, 14, 1016, 10, 9, 13, 14, 1016, 6000, 6000, 6000, 6000, 6000, 6000, 10, 6, 9, 13, 14, 1016, 5000, 6, 5000, 5, 5000, 9, 10, 13, 14, 1016, 10, 9, 13, 14, 1016, 6000, 6000, 6000, 6000, 6000, 6000, 10, 5, 9, 13, 14, 1016, 6000, 6000, 6000, 6000, 6000, 6000, 6000, 6000, 6000, 6000, 6000, 6000, 10, 5000, 5, 6, 9, 13, 14, 1016, 6, 5, 9, 13, 14, 1016, 5000, 6000, 6000, 6000, 6000, 6000, 6000, 6000, 6000, 6000, 6000, 6000, 6000, 6000, 6000, 6000, 6000, 6000, 6000, 6000, 6000, 6000, 6000, 6000, 6000, 6000, 6000, 6000, 6000, 6000, 6000, 6000, 6000, 6000, 6000, 6000, 6000, 6000, 6000, 6000, 6000, 6000, 6000, 6000, 6000, 6000, 6000, 6000, 6000, 6000, 6000, 6000, 6000, 6000, 6000, 6000, 6000, 6000, 6000, 6000, 6000, 6000, 6000, 6000, 6000, 6000, 6000, 6000, 6000, 6000, 6000, 6000, 6000, 6000, 6000, 6000, 6000, 6000, 6000, 6000, 6000, 6000, 6000, 6000, 6000, 6000, 6000, 6000, 6000, 6000, 6000, 6000, 6000, 6000, 6000, 6000, 6000, 6000, 6000, 6000, 6000, 6000, 6000, 6000, 6000, 6000, 6000, 6000, 6000, 6000, 6000, 6000, 6000, 6000, 6000, 6000, 6000, 6000, 6000, 6000, 6000, 6000, 6000, 6000, 6000, 6000, 6000, 6000, 6000, 6000, 6000, 6000, 6000, 6000, 6000, 6000, 6000, 6000, 6000, 6000, 6000, 6000, 6000, 6000, 6000, 6000, 6000, 6000, 6000, 6000, 6000, 6000, 6000, 6000, 6000, 6000, 6000, 6000, 6000, 6000, 6000, 6000, 6000, 6000, 6000, 6000, 6000, 6000, 6000, 6000, 6000, 6000, 6000, 6000, 6000, 6000, 6000, 6000, 6000, 6000, 6000, 6000, 6000, 6000, 6000, 6000, 6000, 6000, 6000, 6000, 6000, 6000, 6000, 6000, 6000, 6000, 6000, 6000, 6000, 6000, 6000, 6000, 6000, 6000, 6000, 6000, 6000, 6000, 6000, 6000, 6000, 6000, 6000, 6000, 6000, 6000, 6000, 6000, 6000, 6000, 6000, 6000, 6000, 6000, 6000, 6000, 6000, 6000, 6000, 6000, 6000, 6000, 6000, 6000, 6000, 6000, 6000, 6000, 6000, 6000, 6000, 6000, 6000, 6000, 6000, 6000, 6000, 6000, 6000, 6000, 6000, 6000, 6000, 6000, 6000, 6000, 6000, 6000, 6000, 6000, 6000, 6000, 6000, 6000, 6000, 6000, 6000, 6000, 6000, 6000, 6000, 6000, 6000, 6000, 6000, 6000, 6000, 6000, 6000, 6000, 6000, 6000, 6000, 6000, 6000, 6000, 6000, 6000, 6000, 6000, 6000, 6000, 6000, 6000, 6000, 6000, 6000, 6000, 6000, 6000, 6000, 6000, 6000, 6000, 6000, 6000, 6000, 6000, 6000, 6000, 6000, 6000, 6000, 6000, 6000, 6000, 6000, 6000, 6000, 6000, 6000, 6000, 6000, 6000, 6000, 6000, 6000, 6000, 6000, 6000, 6000, 6000, 6000, 6000, 6000, 6000, 6000, 6000, 6000, 6000, 6000, 6000, 6000, 6000, 6000, 6000, 6000, 6000, 6000, 6000, 6000, 6000, 6000, 6000, 6000, 6000, 6000, 6000, 6000, 6000, 6000, 6000, 6000, 6000, 6000, 6000, 6000, 6000, 6000, 6000, 6000, 6000, 6000, 6000, 6000, 6000, 6000, 6000, 6000, 6000, 6000, 6000, 6, 5000, 6000, 2, 5000, 6000, 5, 5000, 6000, 6000, 6000, 6000, 6000, 6000, 6000, 6000, 6000, 6000, 6000, 6000, 6000, 6000, 6000, 6000, 6000, 6000, 6000, 6000, 6000, 6000, 6000, 9, 5000, 10, 5000, 13, 14, 15, 1016, 15, 13, 14, 1016, 6000, 6000, 6000, 6000, 6000, 15, 10, 13, 14, 1016, 5000, 10, 5000, 9, 5000, 13, 14, 15, 1016, 15, 13, 14, 1016, 6000, 6000, 6000, 6000, 6000, 15, 9, 13, 14, 1016, 6000, 6000, 6000, 6000, 6000, 6000, 6000, 6000, 6000, 6000, 15, 5000, 9, 10, 13, 14, 1016, 10, 9, 13, 14, 1016, 5000, 10, 5000, 5, 5000, 9, 5000, 13, 14, 15, 1016, 15, 13, 14, 1016, 6000, 6000, 6000, 6000, 6000, 15, 9, 13, 14, 1016, 6000, 6000, 6000, 6000, 6000, 6000, 6000, 6000, 6000, 6000, 6000, 6000, 6000, 6000, 6000, 6000, 15, 5, 9, 13, 14, 1016, 6000, 6000, 6000, 6000, 6000, 6000, 6000, 6000, 6000, 6000, 6000, 6000, 6000, 6000, 6000, 6000, 6000, 6000, 6000, 6000, 15, 5000, 5, 5000, 9, 10, 13, 14, 1016, 10, 9, 13, 14, 1016, 6000, 6000, 6000, 6000, 6000, 6000, 10, 5, 9, 13, 14, 1016, 5000, 10, 5000, 2, 5000, 5, 5000, 9, 5000, 13, 14, 15, 1016, 15, 13, 14, 1016, 6000, 6000, 6000, 6000, 6000, 15, 9, 13, 14, 1016, 6000, 6000, 6000, 6000, 6000, 6000, 6000, 6000, 6000, 6000, 6000, 6000, 6000, 6000, 6000, 6000, 15, 5, 9, 13, 14, 1016, 6000, 6000, 6000, 6000, 6000, 6000, 6000, 6000, 6000, 6000, 6000, 6000, 6000, 6000, 6000, 6000, 6000, 6000, 6000, 6000, 6000, 6000, 6000, 6000, 6000, 6000, 6000, 6000, 6000, 6000, 6000, 6000, 6000, 6000, 6000, 6000, 6000, 6000, 6000, 15, 2, 5, 9, 13, 14, 1016, 6000, 6000, 6000, 6000, 6000, 6000, 6000, 6000, 6000, 6000, 6000, 6000, 6000, 6000, 6000, 6000, 6000, 6000, 6000, 6000, 6000, 6000, 6000, 6000, 6000, 6000, 6000, 6000, 6000, 6000, 6000, 6000, 6000, 6000, 6000, 6000, 6000, 6000, 6000, 6000, 15, 5000, 2, 5000, 5, 5000, 9, 10, 13, 14, 1016, 10, 9, 13, 14, 1016, 6000, 6000, 6000, 6000, 6000, 6000, 10, 5, 9, 13, 14, 1016, 6000, 6000, 6000, 6000, 6000, 6000, 6000, 6000, 6000, 6000, 6000, 6000, 6000, 6000, 6000, 6000, 6000, 6000, 6000, 10, 2, 5, 9, 13, 14, 1016, 5000, 10, 5000, 6000, 2, 5000, 6000, 6000, 6000, 6000, 6000, 6000, 6000, 6000, 6000, 6000, 6000, 6000, 6000, 6000, 6000, 6000, 6000, 6000, 6000, 6000, 6000, 6000, 6000, 6000, 6000, 6000, 6000, 6000, 6000, 6000, 6000, 6000, 6000, 6000, 6000, 6000, 6000, 6000, 6000, 6000, 6000, 6000, 6000, 6000, 6000, 6000, 6000, 5, 5000, 6, 5000, 9, 5000, 13, 14, 15, 1016, 15, 13, 14, 1016, 6000, 6000, 6000, 6000, 6000, 15, 9, 13, 14, 1016, 6000, 6000, 6000, 6000, 6000, 6000, 6000, 6000, 6000, 6000, 6000, 6000, 6000, 6000, 6000, 6000, 15, 6, 9, 13, 14, 1016, 5000, 6, 5000, 5, 5000, 9, 5000, 13, 14, 15, 1016, 15, 13, 14, 1016, 6000, 6000, 6000, 6000, 6000, 15, 9, 13, 14, 1016, 6000, 6000, 6000, 6000, 6000, 6000, 6000, 6000, 6000, 6000, 6000, 6000, 6000, 6000, 6000, 6000, 15, 5, 9, 13, 14, 1016, 6000, 6000, 6000, 6000, 6000, 6000, 6000, 6000, 6000, 6000, 6000, 6000, 6000, 6000, 6000, 6000, 6000, 6000, 6000, 6000, 6000, 6000, 6000, 6000, 6000, 6000, 6000, 6000, 6000, 6000, 6000, 6000, 15, 5000, 5, 6, 9, 13, 14, 1016, 6, 5, 9, 13, 14, 1016, 5000, 6, 5000, 2, 5000, 5, 5000, 9, 5000, 13, 14, 15, 1016, 15, 13, 14, 1016, 6000, 6000, 6000, 6000, 6000, 15, 9, 13, 14, 1016, 6000, 6000, 6000, 6000, 6000, 6000, 6000, 6000, 6000, 6000, 6000, 6000, 6000, 6000, 6000, 6000, 15, 5, 9, 13, 14, 1016, 6000, 6000, 6000, 6000, 6000, 6000, 6000, 6000, 6000, 6000, 6000, 6000, 6000, 6000, 6000, 6000, 6000, 6000, 6000, 6000, 6000, 6000, 6000, 6000, 6000, 6000, 6000, 6000, 6000, 6000, 6000, 6000, 6000, 6000, 6000, 6000, 6000, 6000, 6000, 15, 2, 5, 9, 13, 14, 1016, 6000, 6000, 6000, 6000, 6000, 6000, 6000, 6000, 6000, 6000, 6000, 6000, 6000, 6000, 6000, 6000, 6000, 6000, 6000, 6000, 6000, 6000, 6000, 6000, 6000, 6000, 6000, 6000, 6000, 6000, 6000, 6000, 6000, 6000, 6000, 6000, 6000, 6000, 6000, 6000, 6000, 6000, 6000, 6000, 6000, 6000, 6000, 6000, 6000, 6000, 6000, 6000, 6000, 6000, 6000, 6000, 6000, 6000, 6000, 6000, 6000, 6000, 6000, 6000, 15, 5000, 2, 5000, 5, 6, 9, 13, 14, 1016, 6, 5, 9, 13, 14, 1016, 6000, 6000, 6000, 6000, 6000, 6000, 6000, 6, 2, 5, 9, 13, 14, 1016, 6000, 6000, 6000, 6000, 6000, 6000, 6000, 6000, 6000, 6000, 6000, 6000, 6000, 6000, 6000, 6000, 6000, 6000, 6000, 6000, 6000, 6000, 6000, 6000, 6000, 6000, 6000, 6000, 6000, 6000, 6000, 6000, 6000, 6000, 6000, 6000, 6000, 6000, 6000, 6000, 6000, 6000, 6000, 6000, 6000, 6000, 6000, 6000, 6000, 6000, 6000, 6000, 6000, 6000, 6000, 6000, 6000, 6000, 6000, 6000, 6000, 6000, 6000, 6000, 6000, 6000, 6000, 6000, 6000, 6000, 6000, 6000, 6000, 6000, 6000, 6000, 6000, 6000, 6000, 6000, 6000, 6000, 6000, 6000, 6000, 6000, 6000, 6000, 6000, 6000, 6000, 6000, 6000, 6000, 6000, 6000, 6000, 6000, 6000, 6000, 6000, 6000, 6000, 6000, 6000, 6000, 6000, 6000, 6000, 6000, 6000, 6000, 6000, 6000, 6000, 6000, 6000, 6000, 6000, 6000, 6000, 6000, 6000, 6000, 6000, 6000, 6000, 6000, 6000, 6000, 6000, 6000, 6000, 6000, 6000, 6000, 6000, 6000, 6000, 6000, 6000, 6000, 6000, 6000, 6000, 6000, 6000, 6000, 6000, 6000, 6000, 6000, 6000, 6000, 6000, 6000, 6000, 6000, 6000, 6000, 15, 5000, 6000, 2, 5000, 6000, 6000, 6000, 6000, 6000, 6000, 6000, 6000, 6000, 6000, 6000, 6000, 6000, 6000, 6000, 6000, 6000, 6000, 6000, 6000, 6000, 6000, 6000, 6000, 6000, 6000, 6000, 5, 5000, 6, 5000, 9, 10, 13, 14, 1016, 10, 9, 13, 14, 1016, 6000, 6000, 6000, 6000, 6000, 6000, 10, 6, 9, 13, 14, 1016, 5000, 6, 5000, 5, 5000, 9, 10, 13, 14, 1016, 10, 9, 13, 14, 1016, 6000, 6000, 6000, 6000, 6000, 6000, 10, 5, 9, 13, 14, 1016, 6000, 6000, 6000, 6000, 6000, 6000, 6000, 6000, 6000, 6000, 6000, 6000, 10, 5000, 5, 6, 9, 13, 14, 1016, 6, 5, 9, 13, 14, 1016, 5000, 6, 5000, 2, 5000, 5, 5000, 9, 10, 13, 14, 1016, 10, 9, 13, 14, 1016, 6000, 6000, 6000, 6000, 6000, 6000, 10, 5, 9, 13, 14, 1016, 6000, 6000, 6000, 6000, 6000, 6000, 6000, 6000, 6000, 6000, 6000, 6000, 6000, 6000, 6000, 6000, 6000, 6000, 6000, 10, 2, 5, 9, 13, 14, 1016, 6000, 6000, 6000, 6000, 6000, 6000, 6000, 6000, 6000, 6000, 6000, 6000, 6000, 6000, 6000, 6000, 6000, 6000, 6000, 6000, 6000, 6000, 6000, 6000, 10, 5000, 2, 5000, 5, 6, 9, 13, 14, 1016, 6, 5, 9, 13, 14, 1016, 6000, 6000, 6000, 6000, 6000, 6000, 6000, 6, 2, 5, 9, 13, 14, 1016], [2, 3, 4, 5], by decide +kernel, ?_⟩
          obtain ⟨g750, h⟩ := gpT h
          obtain ⟨g727, h⟩ := gpT h
          obtain ⟨g724, h⟩ := gpT h
          refine And.intro ?_ ?_
          · refine And.intro (show fits _ _ from trivial) ?_
            refine And.intro ?_ ?_
            · skip
              refine Exists.intro ([].map gSEdge.enc) (And.intro (rowX (rowN (show [] = [].map gSEdge.enc by simp) (show 0 = ([].map gSEdge.enc).length by simp)) (fits_map (e := gSEdge.enc) (fun _ => ⟨rfl, rfl⟩) _) (appfitJ (by first | simpa using g750 | (simp at g750 ⊢; omega)) rfl)) ?_)
              refine And.intro ?_ ?_
              · refine And.intro (show fits _ _ from trivial) ?_
                refine And.intro ?_ ?_
                · skip
                  refine Exists.intro ([].map gSpot.enc) (And.intro (rowX (rowN (show [] = [].map gSpot.enc by simp) (show 0 = ([].map gSpot.enc).length by simp)) (fits_map (e := gSpot.enc) (fun _ => ⟨rfl, rfl⟩) _) (appfitJ (by first | simpa using g727 | (simp at g727 ⊢; omega)) rfl)) ?_)
                  refine And.intro ?_ ?_
                  · refine And.intro (show fits _ _ from trivial) ?_
                    refine And.intro ?_ ?_
                    · skip
                      refine Exists.intro ([].map gSpot.enc) (And.intro (rowX (rowN (show [] = [].map gSpot.enc by simp) (show 0 = ([].map gSpot.enc).length by simp)) (fits_map (e := gSpot.enc) (fun _ => ⟨rfl, rfl⟩) _) (appfitJ (by first | simpa using g724 | (simp at g724 ⊢; omega)) rfl)) ?_)
                      exact ⟨(), h, [(999999, 0), (999999, 1), (999999, 5), (999999, 2), (999999, 3), (999999, 4)], ⟨rfl, rfl, rfl, rfl, rfl, trivial⟩, ⟨⟨rfl, rfl, rfl, rfl, rfl, trivial⟩, ⟨rfl, rfl, rfl, rfl, rfl, trivial⟩, ⟨rfl, rfl, (congrArg (AV.row 3 3 0) (show a47.edges_.length = (0 + (a47.edges_.map gSEdge.enc : List PV).length) by simp)), (congrArg (AV.row 4 2 0) (show a47.decls_.length = (0 + (a47.decls_.map gSpot.enc : List PV).length) by simp)), (congrArg (AV.row 5 2 0) (show a47.refs_.length = (0 + (a47.refs_.map gSpot.enc : List PV).length) by simp)), trivial⟩, (congrArg (Bk.row 165 3) (show a47.edges_.map gSEdge.enc = ([].map gSEdge.enc) ++ (a47.edges_.map gSEdge.enc) by simp)), (congrArg (Bk.row 71 2) (show a47.decls_.map gSpot.enc = ([].map gSpot.enc) ++ (a47.decls_.map gSpot.enc) by simp)), (congrArg (Bk.row 71 2) (show a47.refs_.map gSpot.enc = ([].map gSpot.enc) ++ (a47.refs_.map gSpot.enc) by simp)), trivial⟩, rfl⟩
                    · skip
                      refine Exists.intro ([].map gSpot.enc) (And.intro (rowX (rowN (show [] = [].map gSpot.enc by simp) (show 0 = ([].map gSpot.enc).length by simp)) (fits_map (e := gSpot.enc) (fun _ => ⟨rfl, rfl⟩) _) (appfitJ (by first | simpa using g724 | (simp at g724 ⊢; omega)) rfl)) ?_)
                      exact ⟨(), h, [(999999, 0), (999999, 1), (999999, 5), (999999, 2), (999999, 3), (999999, 4)], ⟨rfl, rfl, rfl, rfl, rfl, trivial⟩, ⟨⟨rfl, rfl, rfl, rfl, rfl, trivial⟩, ⟨rfl, rfl, rfl, rfl, rfl, trivial⟩, ⟨rfl, rfl, (congrArg (AV.row 3 3 0) (show a47.edges_.length = (0 + (a47.edges_.map gSEdge.enc : List PV).length) by simp)), (congrArg (AV.row 4 2 0) (show a47.decls_.length = (0 + (a47.decls_.map gSpot.enc : List PV).length) by simp)), (congrArg (AV.row 5 2 0) (show a47.refs_.length = (0 + (a47.refs_.map gSpot.enc : List PV).length) by simp)), trivial⟩, (congrArg (Bk.row 165 3) (show a47.edges_.map gSEdge.enc = ([].map gSEdge.enc) ++ (a47.edges_.map gSEdge.enc) by simp)), (congrArg (Bk.row 71 2) (show a47.decls_.map gSpot.enc = ([].map gSpot.enc) ++ (a47.decls_.map gSpot.enc) by simp)), (congrArg (Bk.row 71 2) (show a47.refs_.map gSpot.enc = ([].map gSpot.enc) ++ (a47.refs_.map gSpot.enc) by simp)), trivial⟩, rfl⟩
                  · refine And.intro (show fits _ _ from trivial) ?_
                    refine Exists.intro ([].map gSpot.enc) (And.intro (rowX (rowN (show [] = [].map gSpot.enc by simp) (show 0 = ([].map gSpot.enc).length by simp)) (fits_map (e := gSpot.enc) (fun _ => ⟨rfl, rfl⟩) _) (appfitJ (by first | simpa using g724 | (simp at g724 ⊢; omega)) rfl)) ?_)
                    exact ⟨(), h, [(999999, 0), (999999, 1), (999999, 4), (999999, 2), (999999, 3), (999999, 5)], ⟨rfl, rfl, rfl, rfl, rfl, trivial⟩, ⟨⟨rfl, rfl, rfl, rfl, rfl, trivial⟩, ⟨rfl, rfl, rfl, rfl, rfl, trivial⟩, ⟨rfl, rfl, (congrArg (AV.row 3 3 0) (show a47.edges_.length = (0 + (a47.edges_.map gSEdge.enc : List PV).length) by simp)), (congrArg (AV.row 4 2 0) (show a47.decls_.length = (0 + (a47.decls_.map gSpot.enc : List PV).length) by simp)), (congrArg (AV.row 5 2 0) (show a47.refs_.length = (0 + (a47.refs_.map gSpot.enc : List PV).length) by simp)), trivial⟩, (congrArg (Bk.row 165 3) (show a47.edges_.map gSEdge.enc = ([].map gSEdge.enc) ++ (a47.edges_.map gSEdge.enc) by simp)), (congrArg (Bk.row 71 2) (show a47.decls_.map gSpot.enc = ([].map gSpot.enc) ++ (a47.decls_.map gSpot.enc) by simp)), (congrArg (Bk.row 71 2) (show a47.refs_.map gSpot.enc = ([].map gSpot.enc) ++ (a47.refs_.map gSpot.enc) by simp)), trivial⟩, rfl⟩
                · refine And.intro ?_ ?_
                  · refine And.intro (show fits _ _ from trivial) ?_
                    refine And.intro ?_ ?_
                    · skip
                      refine Exists.intro ([].map gSpot.enc) (And.intro (rowX (rowN (show [] = [].map gSpot.enc by simp) (show 0 = ([].map gSpot.enc).length by simp)) (fits_map (e := gSpot.enc) (fun _ => ⟨rfl, rfl⟩) _) (appfitJ (by first | simpa using g727 | (simp at g727 ⊢; omega)) rfl)) ?_)
                      refine And.intro ?_ ?_
                      · skip
                        refine Exists.intro ([].map gSpot.enc) (And.intro (rowX (rowN (show [] = [].map gSpot.enc by simp) (show 0 = ([].map gSpot.enc).length by simp)) (fits_map (e := gSpot.enc) (fun _ => ⟨rfl, rfl⟩) _) (appfitJ (by first | simpa using g724 | (simp at g724 ⊢; omega)) rfl)) ?_)
                        exact ⟨(), h, [(999999, 0), (999999, 1), (999999, 5), (999999, 2), (999999, 3), (999999, 4)], ⟨rfl, rfl, rfl, rfl, rfl, trivial⟩, ⟨⟨rfl, rfl, rfl, rfl, rfl, trivial⟩, ⟨rfl, rfl, rfl, rfl, rfl, trivial⟩, ⟨rfl, rfl, (congrArg (AV.row 3 3 0) (show a47.edges_.length = (0 + (a47.edges_.map gSEdge.enc : List PV).length) by simp)), (congrArg (AV.row 4 2 0) (show a47.decls_.length = (0 + (a47.decls_.map gSpot.enc : List PV).length) by simp)), (congrArg (AV.row 5 2 0) (show a47.refs_.length = (0 + (a47.refs_.map gSpot.enc : List PV).length) by simp)), trivial⟩, (congrArg (Bk.row 165 3) (show a47.edges_.map gSEdge.enc = ([].map gSEdge.enc) ++ (a47.edges_.map gSEdge.enc) by simp)), (congrArg (Bk.row 71 2) (show a47.decls_.map gSpot.enc = ([].map gSpot.enc) ++ (a47.decls_.map gSpot.enc) by simp)), (congrArg (Bk.row 71 2) (show a47.refs_.map gSpot.enc = ([].map gSpot.enc) ++ (a47.refs_.map gSpot.enc) by simp)), trivial⟩, rfl⟩
                      · skip
                        refine Exists.intro ([].map gSpot.enc) (And.intro (rowX (rowN (show [] = [].map gSpot.enc by simp) (show 0 = ([].map gSpot.enc).length by simp)) (fits_map (e := gSpot.enc) (fun _ => ⟨rfl, rfl⟩) _) (appfitJ (by first | simpa using g724 | (simp at g724 ⊢; omega)) rfl)) ?_)
                        exact ⟨(), h, [(999999, 0), (999999, 1), (999999, 5), (999999, 2), (999999, 3), (999999, 4)], ⟨rfl, rfl, rfl, rfl, rfl, trivial⟩, ⟨⟨rfl, rfl, rfl, rfl, rfl, trivial⟩, ⟨rfl, rfl, rfl, rfl, rfl, trivial⟩, ⟨rfl, rfl, (congrArg (AV.row 3 3 0) (show a47.edges_.length = (0 + (a47.edges_.map gSEdge.enc : List PV).length) by simp)), (congrArg (AV.row 4 2 0) (show a47.decls_.length = (0 + (a47.decls_.map gSpot.enc : List PV).length) by simp)), (congrArg (AV.row 5 2 0) (show a47.refs_.length = (0 + (a47.refs_.map gSpot.enc : List PV).length) by simp)), trivial⟩, (congrArg (Bk.row 165 3) (show a47.edges_.map gSEdge.enc = ([].map gSEdge.enc) ++ (a47.edges_.map gSEdge.enc) by simp)), (congrArg (Bk.row 71 2) (show a47.decls_.map gSpot.enc = ([].map gSpot.enc) ++ (a47.decls_.map gSpot.enc) by simp)), (congrArg (Bk.row 71 2) (show a47.refs_.map gSpot.enc = ([].map gSpot.enc) ++ (a47.refs_.map gSpot.enc) by simp)), trivial⟩, rfl⟩
                    · skip
                      refine Exists.intro ([].map gSpot.enc) (And.intro (rowX (rowN (show [] = [].map gSpot.enc by simp) (show 0 = ([].map gSpot.enc).length by simp)) (fits_map (e := gSpot.enc) (fun _ => ⟨rfl, rfl⟩) _) (appfitJ (by first | simpa using g727 | (simp at g727 ⊢; omega)) rfl)) ?_)
                      refine Exists.intro ([].map gSpot.enc) (And.intro (rowX (rowN (show [] = [].map gSpot.enc by simp) (show 0 = ([].map gSpot.enc).length by simp)) (fits_map (e := gSpot.enc) (fun _ => ⟨rfl, rfl⟩) _) (appfitJ (by first | simpa using g724 | (simp at g724 ⊢; omega)) rfl)) ?_)
                      exact ⟨(), h, [(999999, 0), (999999, 1), (999999, 5), (999999, 2), (999999, 3), (999999, 4)], ⟨rfl, rfl, rfl, rfl, rfl, trivial⟩, ⟨⟨rfl, rfl, rfl, rfl, rfl, trivial⟩, ⟨rfl, rfl, rfl, rfl, rfl, trivial⟩, ⟨rfl, rfl, (congrArg (AV.row 3 3 0) (show a47.edges_.length = (0 + (a47.edges_.map gSEdge.enc : List PV).length) by simp)), (congrArg (AV.row 4 2 0) (show a47.decls_.length = (0 + (a47.decls_.map gSpot.enc : List PV).length) by simp)), (congrArg (AV.row 5 2 0) (show a47.refs_.length = (0 + (a47.refs_.map gSpot.enc : List PV).length) by simp)), trivial⟩, (congrArg (Bk.row 165 3) (show a47.edges_.map gSEdge.enc = ([].map gSEdge.enc) ++ (a47.edges_.map gSEdge.enc) by simp)), (congrArg (Bk.row 71 2) (show a47.decls_.map gSpot.enc = ([].map gSpot.enc) ++ (a47.decls_.map gSpot.enc) by simp)), (congrArg (Bk.row 71 2) (show a47.refs_.map gSpot.enc = ([].map gSpot.enc) ++ (a47.refs_.map gSpot.enc) by simp)), trivial⟩, rfl⟩
                  · refine And.intro ?_ ?_
                    · skip
                      refine Exists.intro ([].map gSpot.enc) (And.intro (rowX (rowN (show [] = [].map gSpot.enc by simp) (show 0 = ([].map gSpot.enc).length by simp)) (fits_map (e := gSpot.enc) (fun _ => ⟨rfl, rfl⟩) _) (appfitJ (by first | simpa using g727 | (simp at g727 ⊢; omega)) rfl)) ?_)
                      refine And.intro (show fits _ _ from trivial) ?_
                      refine Exists.intro ([].map gSpot.enc) (And.intro (rowX (rowN (show [] = [].map gSpot.enc by simp) (show 0 = ([].map gSpot.enc).length by simp)) (fits_map (e := gSpot.enc) (fun _ => ⟨rfl, rfl⟩) _) (appfitJ (by first | simpa using g724 | (simp at g724 ⊢; omega)) rfl)) ?_)
                      exact ⟨(), h, [(999999, 0), (999999, 1), (999999, 4), (999999, 2), (999999, 3), (999999, 5)], ⟨rfl, rfl, rfl, rfl, rfl, trivial⟩, ⟨⟨rfl, rfl, rfl, rfl, rfl, trivial⟩, ⟨rfl, rfl, rfl, rfl, rfl, trivial⟩, ⟨rfl, rfl, (congrArg (AV.row 3 3 0) (show a47.edges_.length = (0 + (a47.edges_.map gSEdge.enc : List PV).length) by simp)), (congrArg (AV.row 4 2 0) (show a47.decls_.length = (0 + (a47.decls_.map gSpot.enc : List PV).length) by simp)), (congrArg (AV.row 5 2 0) (show a47.refs_.length = (0 + (a47.refs_.map gSpot.enc : List PV).length) by simp)), trivial⟩, (congrArg (Bk.row 165 3) (show a47.edges_.map gSEdge.enc = ([].map gSEdge.enc) ++ (a47.edges_.map gSEdge.enc) by simp)), (congrArg (Bk.row 71 2) (show a47.decls_.map gSpot.enc = ([].map gSpot.enc) ++ (a47.decls_.map gSpot.enc) by simp)), (congrArg (Bk.row 71 2) (show a47.refs_.map gSpot.enc = ([].map gSpot.enc) ++ (a47.refs_.map gSpot.enc) by simp)), trivial⟩, rfl⟩
                    · refine And.intro (show fits _ _ from trivial) ?_
                      refine Exists.intro ([].map gSpot.enc) (And.intro (rowX (rowN (show [] = [].map gSpot.enc by simp) (show 0 = ([].map gSpot.enc).length by simp)) (fits_map (e := gSpot.enc) (fun _ => ⟨rfl, rfl⟩) _) (appfitJ (by first | simpa using g727 | (simp at g727 ⊢; omega)) rfl)) ?_)
                      refine Exists.intro ([].map gSpot.enc) (And.intro (rowX (rowN (show [] = [].map gSpot.enc by simp) (show 0 = ([].map gSpot.enc).length by simp)) (fits_map (e := gSpot.enc) (fun _ => ⟨rfl, rfl⟩) _) (appfitJ (by first | simpa using g724 | (simp at g724 ⊢; omega)) rfl)) ?_)
                      exact ⟨(), h, [(999999, 0), (999999, 1), (999999, 4), (999999, 2), (999999, 3), (999999, 5)], ⟨rfl, rfl, rfl, rfl, rfl, trivial⟩, ⟨⟨rfl, rfl, rfl, rfl, rfl, trivial⟩, ⟨rfl, rfl, rfl, rfl, rfl, trivial⟩, ⟨rfl, rfl, (congrArg (AV.row 3 3 0) (show a47.edges_.length = (0 + (a47.edges_.map gSEdge.enc : List PV).length) by simp)), (congrArg (AV.row 4 2 0) (show a47.decls_.length = (0 + (a47.decls_.map gSpot.enc : List PV).length) by simp)), (congrArg (AV.row 5 2 0) (show a47.refs_.length = (0 + (a47.refs_.map gSpot.enc : List PV).length) by simp)), trivial⟩, (congrArg (Bk.row 165 3) (show a47.edges_.map gSEdge.enc = ([].map gSEdge.enc) ++ (a47.edges_.map gSEdge.enc) by simp)), (congrArg (Bk.row 71 2) (show a47.decls_.map gSpot.enc = ([].map gSpot.enc) ++ (a47.decls_.map gSpot.enc) by simp)), (congrArg (Bk.row 71 2) (show a47.refs_.map gSpot.enc = ([].map gSpot.enc) ++ (a47.refs_.map gSpot.enc) by simp)), trivial⟩, rfl⟩
              · refine And.intro ?_ ?_
                · refine And.intro (show fits _ _ from trivial) ?_
                  refine And.intro ?_ ?_
                  · refine And.intro (show fits _ _ from trivial) ?_
                    refine And.intro ?_ ?_
                    · skip
                      refine Exists.intro ([].map gSpot.enc) (And.intro (rowX (rowN (show [] = [].map gSpot.enc by simp) (show 0 = ([].map gSpot.enc).length by simp)) (fits_map (e := gSpot.enc) (fun _ => ⟨rfl, rfl⟩) _) (appfitJ (by first | simpa using g727 | (simp at g727 ⊢; omega)) rfl)) ?_)
                      refine And.intro ?_ ?_
                      · skip
                        refine Exists.intro ([].map gSpot.enc) (And.intro (rowX (rowN (show [] = [].map gSpot.enc by simp) (show 0 = ([].map gSpot.enc).length by simp)) (fits_map (e := gSpot.enc) (fun _ => ⟨rfl, rfl⟩) _) (appfitJ (by first | simpa using g724 | (simp at g724 ⊢; omega)) rfl)) ?_)
                        exact ⟨(), h, [(999999, 0), (999999, 1), (999999, 5), (999999, 2), (999999, 4), (999999, 3)], ⟨rfl, rfl, rfl, rfl, rfl, trivial⟩, ⟨⟨rfl, rfl, rfl, rfl, rfl, trivial⟩, ⟨rfl, rfl, rfl, rfl, rfl, trivial⟩, ⟨rfl, rfl, (congrArg (AV.row 3 3 0) (show a47.edges_.length = (0 + (a47.edges_.map gSEdge.enc : List PV).length) by simp)), (congrArg (AV.row 4 2 0) (show a47.decls_.length = (0 + (a47.decls_.map gSpot.enc : List PV).length) by simp)), (congrArg (AV.row 5 2 0) (show a47.refs_.length = (0 + (a47.refs_.map gSpot.enc : List PV).length) by simp)), trivial⟩, (congrArg (Bk.row 165 3) (show a47.edges_.map gSEdge.enc = ([].map gSEdge.enc) ++ (a47.edges_.map gSEdge.enc) by simp)), (congrArg (Bk.row 71 2) (show a47.decls_.map gSpot.enc = ([].map gSpot.enc) ++ (a47.decls_.map gSpot.enc) by simp)), (congrArg (Bk.row 71 2) (show a47.refs_.map gSpot.enc = ([].map gSpot.enc) ++ (a47.refs_.map gSpot.enc) by simp)), trivial⟩, rfl⟩
                      · skip
                        refine Exists.intro ([].map gSpot.enc) (And.intro (rowX (rowN (show [] = [].map gSpot.enc by simp) (show 0 = ([].map gSpot.enc).length by simp)) (fits_map (e := gSpot.enc) (fun _ => ⟨rfl, rfl⟩) _) (appfitJ (by first | simpa using g724 | (simp at g724 ⊢; omega)) rfl)) ?_)
                        exact ⟨(), h, [(999999, 0), (999999, 1), (999999, 5), (999999, 2), (999999, 4), (999999, 3)], ⟨rfl, rfl, rfl, rfl, rfl, trivial⟩, ⟨⟨rfl, rfl, rfl, rfl, rfl, trivial⟩, ⟨rfl, rfl, rfl, rfl, rfl, trivial⟩, ⟨rfl, rfl, (congrArg (AV.row 3 3 0) (show a47.edges_.length = (0 + (a47.edges_.map gSEdge.enc : List PV).length) by simp)), (congrArg (AV.row 4 2 0) (show a47.decls_.length = (0 + (a47.decls_.map gSpot.enc : List PV).length) by simp)), (congrArg (AV.row 5 2 0) (show a47.refs_.length = (0 + (a47.refs_.map gSpot.enc : List PV).length) by simp)), trivial⟩, (congrArg (Bk.row 165 3) (show a47.edges_.map gSEdge.enc = ([].map gSEdge.enc) ++ (a47.edges_.map gSEdge.enc) by simp)), (congrArg (Bk.row 71 2) (show a47.decls_.map gSpot.enc = ([].map gSpot.enc) ++ (a47.decls_.map gSpot.enc) by simp)), (congrArg (Bk.row 71 2) (show a47.refs_.map gSpot.enc = ([].map gSpot.enc) ++ (a47.refs_.map gSpot.enc) by simp)), trivial⟩, rfl⟩
                    · skip
                      refine Exists.intro ([].map gSpot.enc) (And.intro (rowX (rowN (show [] = [].map gSpot.enc by simp) (show 0 = ([].map gSpot.enc).length by simp)) (fits_map (e := gSpot.enc) (fun _ => ⟨rfl, rfl⟩) _) (appfitJ (by first | simpa using g727 | (simp at g727 ⊢; omega)) rfl)) ?_)
                      refine Exists.intro ([].map gSpot.enc) (And.intro (rowX (rowN (show [] = [].map gSpot.enc by simp) (show 0 = ([].map gSpot.enc).length by simp)) (fits_map (e := gSpot.enc) (fun _ => ⟨rfl, rfl⟩) _) (appfitJ (by first | simpa using g724 | (simp at g724 ⊢; omega)) rfl)) ?_)
                      exact ⟨(), h, [(999999, 0), (999999, 1), (999999, 5), (999999, 2), (999999, 4), (999999, 3)], ⟨rfl, rfl, rfl, rfl, rfl, trivial⟩, ⟨⟨rfl, rfl, rfl, rfl, rfl, trivial⟩, ⟨rfl, rfl, rfl, rfl, rfl, trivial⟩, ⟨rfl, rfl, (congrArg (AV.row 3 3 0) (show a47.edges_.length = (0 + (a47.edges_.map gSEdge.enc : List PV).length) by simp)), (congrArg (AV.row 4 2 0) (show a47.decls_.length = (0 + (a47.decls_.map gSpot.enc : List PV).length) by simp)), (congrArg (AV.row 5 2 0) (show a47.refs_.length = (0 + (a47.refs_.map gSpot.enc : List PV).length) by simp)), trivial⟩, (congrArg (Bk.row 165 3) (show a47.edges_.map gSEdge.enc = ([].map gSEdge.enc) ++ (a47.edges_.map gSEdge.enc) by simp)), (congrArg (Bk.row 71 2) (show a47.decls_.map gSpot.enc = ([].map gSpot.enc) ++ (a47.decls_.map gSpot.enc) by simp)), (congrArg (Bk.row 71 2) (show a47.refs_.map gSpot.enc = ([].map gSpot.enc) ++ (a47.refs_.map gSpot.enc) by simp)), trivial⟩, rfl⟩
                  · refine And.intro (show fits _ _ from trivial) ?_
                    refine Exists.intro ([].map gSpot.enc) (And.intro (rowX (rowN (show [] = [].map gSpot.enc by simp) (show 0 = ([].map gSpot.enc).length by simp)) (fits_map (e := gSpot.enc) (fun _ => ⟨rfl, rfl⟩) _) (appfitJ (by first | simpa using g727 | (simp at g727 ⊢; omega)) rfl)) ?_)
                    refine Exists.intro ([].map gSpot.enc) (And.intro (rowX (rowN (show [] = [].map gSpot.enc by simp) (show 0 = ([].map gSpot.enc).length by simp)) (fits_map (e := gSpot.enc) (fun _ => ⟨rfl, rfl⟩) _) (appfitJ (by first | simpa using g724 | (simp at g724 ⊢; omega)) rfl)) ?_)
                    exact ⟨(), h, [(999999, 0), (999999, 1), (999999, 4), (999999, 2), (999999, 5), (999999, 3)], ⟨rfl, rfl, rfl, rfl, rfl, trivial⟩, ⟨⟨rfl, rfl, rfl, rfl, rfl, trivial⟩, ⟨rfl, rfl, rfl, rfl, rfl, trivial⟩, ⟨rfl, rfl, (congrArg (AV.row 3 3 0) (show a47.edges_.length = (0 + (a47.edges_.map gSEdge.enc : List PV).length) by simp)), (congrArg (AV.row 4 2 0) (show a47.decls_.length = (0 + (a47.decls_.map gSpot.enc : List PV).length) by simp)), (congrArg (AV.row 5 2 0) (show a47.refs_.length = (0 + (a47.refs_.map gSpot.enc : List PV).length) by simp)), trivial⟩, (congrArg (Bk.row 165 3) (show a47.edges_.map gSEdge.enc = ([].map gSEdge.enc) ++ (a47.edges_.map gSEdge.enc) by simp)), (congrArg (Bk.row 71 2) (show a47.decls_.map gSpot.enc = ([].map gSpot.enc) ++ (a47.decls_.map gSpot.enc) by simp)), (congrArg (Bk.row 71 2) (show a47.refs_.map gSpot.enc = ([].map gSpot.enc) ++ (a47.refs_.map gSpot.enc) by simp)), trivial⟩, rfl⟩
                · refine And.intro ?_ ?_
                  · refine And.intro (show fits _ _ from trivial) ?_
                    refine And.intro ?_ ?_
                    · skip
                      refine Exists.intro ([].map gSpot.enc) (And.intro (rowX (rowN (show [] = [].map gSpot.enc by simp) (show 0 = ([].map gSpot.enc).length by simp)) (fits_map (e := gSpot.enc) (fun _ => ⟨rfl, rfl⟩) _) (appfitJ (by first | simpa using g727 | (simp at g727 ⊢; omega)) rfl)) ?_)
                      refine And.intro (show fits _ _ from trivial) ?_
                      refine Exists.intro ([].map gSpot.enc) (And.intro (rowX (rowN (show [] = [].map gSpot.enc by simp) (show 0 = ([].map gSpot.enc).length by simp)) (fits_map (e := gSpot.enc) (fun _ => ⟨rfl, rfl⟩) _) (appfitJ (by first | simpa using g724 | (simp at g724 ⊢; omega)) rfl)) ?_)
                      exact ⟨(), h, [(999999, 0), (999999, 1), (999999, 3), (999999, 2), (999999, 4), (999999, 5)], ⟨rfl, rfl, rfl, rfl, rfl, trivial⟩, ⟨⟨rfl, rfl, rfl, rfl, rfl, trivial⟩, ⟨rfl, rfl, rfl, rfl, rfl, trivial⟩, ⟨rfl, rfl, (congrArg (AV.row 3 3 0) (show a47.edges_.length = (0 + (a47.edges_.map gSEdge.enc : List PV).length) by simp)), (congrArg (AV.row 4 2 0) (show a47.decls_.length = (0 + (a47.decls_.map gSpot.enc : List PV).length) by simp)), (congrArg (AV.row 5 2 0) (show a47.refs_.length = (0 + (a47.refs_.map gSpot.enc : List PV).length) by simp)), trivial⟩, (congrArg (Bk.row 165 3) (show a47.edges_.map gSEdge.enc = ([].map gSEdge.enc) ++ (a47.edges_.map gSEdge.enc) by simp)), (congrArg (Bk.row 71 2) (show a47.decls_.map gSpot.enc = ([].map gSpot.enc) ++ (a47.decls_.map gSpot.enc) by simp)), (congrArg (Bk.row 71 2) (show a47.refs_.map gSpot.enc = ([].map gSpot.enc) ++ (a47.refs_.map gSpot.enc) by simp)), trivial⟩, rfl⟩
                    · refine And.intro (show fits _ _ from trivial) ?_
                      refine Exists.intro ([].map gSpot.enc) (And.intro (rowX (rowN (show [] = [].map gSpot.enc by simp) (show 0 = ([].map gSpot.enc).length by simp)) (fits_map (e := gSpot.enc) (fun _ => ⟨rfl, rfl⟩) _) (appfitJ (by first | simpa using g727 | (simp at g727 ⊢; omega)) rfl)) ?_)
                      refine Exists.intro ([].map gSpot.enc) (And.intro (rowX (rowN (show [] = [].map gSpot.enc by simp) (show 0 = ([].map gSpot.enc).length by simp)) (fits_map (e := gSpot.enc) (fun _ => ⟨rfl, rfl⟩) _) (appfitJ (by first | simpa using g724 | (simp at g724 ⊢; omega)) rfl)) ?_)
                      exact ⟨(), h, [(999999, 0), (999999, 1), (999999, 3), (999999, 2), (999999, 4), (999999, 5)], ⟨rfl, rfl, rfl, rfl, rfl, trivial⟩, ⟨⟨rfl, rfl, rfl, rfl, rfl, trivial⟩, ⟨rfl, rfl, rfl, rfl, rfl, trivial⟩, ⟨rfl, rfl, (congrArg (AV.row 3 3 0) (show a47.edges_.length = (0 + (a47.edges_.map gSEdge.enc : List PV).length) by simp)), (congrArg (AV.row 4 2 0) (show a47.decls_.length = (0 + (a47.decls_.map gSpot.enc : List PV).length) by simp)), (congrArg (AV.row 5 2 0) (show a47.refs_.length = (0 + (a47.refs_.map gSpot.enc : List PV).length) by simp)), trivial⟩, (congrArg (Bk.row 165 3) (show a47.edges_.map gSEdge.enc = ([].map gSEdge.enc) ++ (a47.edges_.map gSEdge.enc) by simp)), (congrArg (Bk.row 71 2) (show a47.decls_.map gSpot.enc = ([].map gSpot.enc) ++ (a47.decls_.map gSpot.enc) by simp)), (congrArg (Bk.row 71 2) (show a47.refs_.map gSpot.enc = ([].map gSpot.enc) ++ (a47.refs_.map gSpot.enc) by simp)), trivial⟩, rfl⟩
                  · refine And.intro (show fits _ _ from trivial) ?_
                    refine And.intro (show fits _ _ from trivial) ?_
                    refine Exists.intro ([].map gSpot.enc) (And.intro (rowX (rowN (show [] = [].map gSpot.enc by simp) (show 0 = ([].map gSpot.enc).length by simp)) (fits_map (e := gSpot.enc) (fun _ => ⟨rfl, rfl⟩) _) (appfitJ (by first | simpa using g727 | (simp at g727 ⊢; omega)) rfl)) ?_)
                    refine Exists.intro ([].map gSpot.enc) (And.intro (rowX (rowN (show [] = [].map gSpot.enc by simp) (show 0 = ([].map gSpot.enc).length by simp)) (fits_map (e := gSpot.enc) (fun _ => ⟨rfl, rfl⟩) _) (appfitJ (by first | simpa using g724 | (simp at g724 ⊢; omega)) rfl)) ?_)
                    exact ⟨(), h, [(999999, 0), (999999, 1), (999999, 3), (999999, 2), (999999, 5), (999999, 4)], ⟨rfl, rfl, rfl, rfl, rfl, trivial⟩, ⟨⟨rfl, rfl, rfl, rfl, rfl, trivial⟩, ⟨rfl, rfl, rfl, rfl, rfl, trivial⟩, ⟨rfl, rfl, (congrArg (AV.row 3 3 0) (show a47.edges_.length = (0 + (a47.edges_.map gSEdge.enc : List PV).length) by simp)), (congrArg (AV.row 4 2 0) (show a47.decls_.length = (0 + (a47.decls_.map gSpot.enc : List PV).length) by simp)), (congrArg (AV.row 5 2 0) (show a47.refs_.length = (0 + (a47.refs_.map gSpot.enc : List PV).length) by simp)), trivial⟩, (congrArg (Bk.row 165 3) (show a47.edges_.map gSEdge.enc = ([].map gSEdge.enc) ++ (a47.edges_.map gSEdge.enc) by simp)), (congrArg (Bk.row 71 2) (show a47.decls_.map gSpot.enc = ([].map gSpot.enc) ++ (a47.decls_.map gSpot.enc) by simp)), (congrArg (Bk.row 71 2) (show a47.refs_.map gSpot.enc = ([].map gSpot.enc) ++ (a47.refs_.map gSpot.enc) by simp)), trivial⟩, rfl⟩
            · refine And.intro ?_ ?_
              · refine And.intro (show fits _ _ from trivial) ?_
                refine And.intro ?_ ?_
                · skip
                  refine Exists.intro ([].map gSEdge.enc) (And.intro (rowX (rowN (show [] = [].map gSEdge.enc by simp) (show 0 = ([].map gSEdge.enc).length by simp)) (fits_map (e := gSEdge.enc) (fun _ => ⟨rfl, rfl⟩) _) (appfitJ (by first | simpa using g750 | (simp at g750 ⊢; omega)) rfl)) ?_)
                  refine And.intro ?_ ?_
                  · skip
                    refine Exists.intro ([].map gSpot.enc) (And.intro (rowX (rowN (show [] = [].map gSpot.enc by simp) (show 0 = ([].map gSpot.enc).length by simp)) (fits_map (e := gSpot.enc) (fun _ => ⟨rfl, rfl⟩) _) (appfitJ (by first | simpa using g727 | (simp at g727 ⊢; omega)) rfl)) ?_)
                    refine And.intro ?_ ?_
                    · refine And.intro (show fits _ _ from trivial) ?_
                      refine And.intro ?_ ?_
                      · skip
                        refine Exists.intro ([].map gSpot.enc) (And.intro (rowX (rowN (show [] = [].map gSpot.enc by simp) (show 0 = ([].map gSpot.enc).length by simp)) (fits_map (e := gSpot.enc) (fun _ => ⟨rfl, rfl⟩) _) (appfitJ (by first | simpa using g724 | (simp at g724 ⊢; omega)) rfl)) ?_)
                        exact ⟨(), h, [(999999, 0), (999999, 1), (999999, 5), (999999, 2), (999999, 3), (999999, 4)], ⟨rfl, rfl, rfl, rfl, rfl, trivial⟩, ⟨⟨rfl, rfl, rfl, rfl, rfl, trivial⟩, ⟨rfl, rfl, rfl, rfl, rfl, trivial⟩, ⟨rfl, rfl, (congrArg (AV.row 3 3 0) (show a47.edges_.length = (0 + (a47.edges_.map gSEdge.enc : List PV).length) by simp)), (congrArg (AV.row 4 2 0) (show a47.decls_.length = (0 + (a47.decls_.map gSpot.enc : List PV).length) by simp)), (congrArg (AV.row 5 2 0) (show a47.refs_.length = (0 + (a47.refs_.map gSpot.enc : List PV).length) by simp)), trivial⟩, (congrArg (Bk.row 165 3) (show a47.edges_.map gSEdge.enc = ([].map gSEdge.enc) ++ (a47.edges_.map gSEdge.enc) by simp)), (congrArg (Bk.row 71 2) (show a47.decls_.map gSpot.enc = ([].map gSpot.enc) ++ (a47.decls_.map gSpot.enc) by simp)), (congrArg (Bk.row 71 2) (show a47.refs_.map gSpot.enc = ([].map gSpot.enc) ++ (a47.refs_.map gSpot.enc) by simp)), trivial⟩, rfl⟩
                      · skip
                        refine Exists.intro ([].map gSpot.enc) (And.intro (rowX (rowN (show [] = [].map gSpot.enc by simp) (show 0 = ([].map gSpot.enc).length by simp)) (fits_map (e := gSpot.enc) (fun _ => ⟨rfl, rfl⟩) _) (appfitJ (by first | simpa using g724 | (simp at g724 ⊢; omega)) rfl)) ?_)
                        exact ⟨(), h, [(999999, 0), (999999, 1), (999999, 5), (999999, 2), (999999, 3), (999999, 4)], ⟨rfl, rfl, rfl, rfl, rfl, trivial⟩, ⟨⟨rfl, rfl, rfl, rfl, rfl, trivial⟩, ⟨rfl, rfl, rfl, rfl, rfl, trivial⟩, ⟨rfl, rfl, (congrArg (AV.row 3 3 0) (show a47.edges_.length = (0 + (a47.edges_.map gSEdge.enc : List PV).length) by simp)), (congrArg (AV.row 4 2 0) (show a47.decls_.length = (0 + (a47.decls_.map gSpot.enc : List PV).length) by simp)), (congrArg (AV.row 5 2 0) (show a47.refs_.length = (0 + (a47.refs_.map gSpot.enc : List PV).length) by simp)), trivial⟩, (congrArg (Bk.row 165 3) (show a47.edges_.map gSEdge.enc = ([].map gSEdge.enc) ++ (a47.edges_.map gSEdge.enc) by simp)), (congrArg (Bk.row 71 2) (show a47.decls_.map gSpot.enc = ([].map gSpot.enc) ++ (a47.decls_.map gSpot.enc) by simp)), (congrArg (Bk.row 71 2) (show a47.refs_.map gSpot.enc = ([].map gSpot.enc) ++ (a47.refs_.map gSpot.enc) by simp)), trivial⟩, rfl⟩
                    · refine And.intro (show fits _ _ from trivial) ?_
                      refine Exists.intro ([].map gSpot.enc) (And.intro (rowX (rowN (show [] = [].map gSpot.enc by simp) (show 0 = ([].map gSpot.enc).length by simp)) (fits_map (e := gSpot.enc) (fun _ => ⟨rfl, rfl⟩) _) (appfitJ (by first | simpa using g724 | (simp at g724 ⊢; omega)) rfl)) ?_)
                      exact ⟨(), h, [(999999, 0), (999999, 1), (999999, 4), (999999, 2), (999999, 3), (999999, 5)], ⟨rfl, rfl, rfl, rfl, rfl, trivial⟩, ⟨⟨rfl, rfl, rfl, rfl, rfl, trivial⟩, ⟨rfl, rfl, rfl, rfl, rfl, trivial⟩, ⟨rfl, rfl, (congrArg (AV.row 3 3 0) (show a47.edges_.length = (0 + (a47.edges_.map gSEdge.enc : List PV).length) by simp)), (congrArg (AV.row 4 2 0) (show a47.decls_.length = (0 + (a47.decls_.map gSpot.enc : List PV).length) by simp)), (congrArg (AV.row 5 2 0) (show a47.refs_.length = (0 + (a47.refs_.map gSpot.enc : List PV).length) by simp)), trivial⟩, (congrArg (Bk.row 165 3) (show a47.edges_.map gSEdge.enc = ([].map gSEdge.enc) ++ (a47.edges_.map gSEdge.enc) by simp)), (congrArg (Bk.row 71 2) (show a47.decls_.map gSpot.enc = ([].map gSpot.enc) ++ (a47.decls_.map gSpot.enc) by simp)), (congrArg (Bk.row 71 2) (show a47.refs_.map gSpot.enc = ([].map gSpot.enc) ++ (a47.refs_.map gSpot.enc) by simp)), trivial⟩, rfl⟩
                  · refine And.intro ?_ ?_
                    · refine And.intro (show fits _ _ from trivial) ?_
                      refine And.intro ?_ ?_
                      · skip
                        refine Exists.intro ([].map gSpot.enc) (And.intro (rowX (rowN (show [] = [].map gSpot.enc by simp) (show 0 = ([].map gSpot.enc).length by simp)) (fits_map (e := gSpot.enc) (fun _ => ⟨rfl, rfl⟩) _) (appfitJ (by first | simpa using g727 | (simp at g727 ⊢; omega)) rfl)) ?_)
                        refine And.intro ?_ ?_
                        · skip
                          refine Exists.intro ([].map gSpot.enc) (And.intro (rowX (rowN (show [] = [].map gSpot.enc by simp) (show 0 = ([].map gSpot.enc).length by simp)) (fits_map (e := gSpot.enc) (fun _ => ⟨rfl, rfl⟩) _) (appfitJ (by first | simpa using g724 | (simp at g724 ⊢; omega)) rfl)) ?_)
                          exact ⟨(), h, [(999999, 0), (999999, 1), (999999, 5), (999999, 2), (999999, 3), (999999, 4)], ⟨rfl, rfl, rfl, rfl, rfl, trivial⟩, ⟨⟨rfl, rfl, rfl, rfl, rfl, trivial⟩, ⟨rfl, rfl, rfl, rfl, rfl, trivial⟩, ⟨rfl, rfl, (congrArg (AV.row 3 3 0) (show a47.edges_.length = (0 + (a47.edges_.map gSEdge.enc : List PV).length) by simp)), (congrArg (AV.row 4 2 0) (show a47.decls_.length = (0 + (a47.decls_.map gSpot.enc : List PV).length) by simp)), (congrArg (AV.row 5 2 0) (show a47.refs_.length = (0 + (a47.refs_.map gSpot.enc : List PV).length) by simp)), trivial⟩, (congrArg (Bk.row 165 3) (show a47.edges_.map gSEdge.enc = ([].map gSEdge.enc) ++ (a47.edges_.map gSEdge.enc) by simp)), (congrArg (Bk.row 71 2) (show a47.decls_.map gSpot.enc = ([].map gSpot.enc) ++ (a47.decls_.map gSpot.enc) by simp)), (congrArg (Bk.row 71 2) (show a47.refs_.map gSpot.enc = ([].map gSpot.enc) ++ (a47.refs_.map gSpot.enc) by simp)), trivial⟩, rfl⟩
                        · skip
                          refine Exists.intro ([].map gSpot.enc) (And.intro (rowX (rowN (show [] = [].map gSpot.enc by simp) (show 0 = ([].map gSpot.enc).length by simp)) (fits_map (e := gSpot.enc) (fun _ => ⟨rfl, rfl⟩) _) (appfitJ (by first | simpa using g724 | (simp at g724 ⊢; omega)) rfl)) ?_)
                          exact ⟨(), h, [(999999, 0), (999999, 1), (999999, 5), (999999, 2), (999999, 3), (999999, 4)], ⟨rfl, rfl, rfl, rfl, rfl, trivial⟩, ⟨⟨rfl, rfl, rfl, rfl, rfl, trivial⟩, ⟨rfl, rfl, rfl, rfl, rfl, trivial⟩, ⟨rfl, rfl, (congrArg (AV.row 3 3 0) (show a47.edges_.length = (0 + (a47.edges_.map gSEdge.enc : List PV).length) by simp)), (congrArg (AV.row 4 2 0) (show a47.decls_.length = (0 + (a47.decls_.map gSpot.enc : List PV).length) by simp)), (congrArg (AV.row 5 2 0) (show a47.refs_.length = (0 + (a47.refs_.map gSpot.enc : List PV).length) by simp)), trivial⟩, (congrArg (Bk.row 165 3) (show a47.edges_.map gSEdge.enc = ([].map gSEdge.enc) ++ (a47.edges_.map gSEdge.enc) by simp)), (congrArg (Bk.row 71 2) (show a47.decls_.map gSpot.enc = ([].map gSpot.enc) ++ (a47.decls_.map gSpot.enc) by simp)), (congrArg (Bk.row 71 2) (show a47.refs_.map gSpot.enc = ([].map gSpot.enc) ++ (a47.refs_.map gSpot.enc) by simp)), trivial⟩, rfl⟩
                      · skip
                        refine Exists.intro ([].map gSpot.enc) (And.intro (rowX (rowN (show [] = [].map gSpot.enc by simp) (show 0 = ([].map gSpot.enc).length by simp)) (fits_map (e := gSpot.enc) (fun _ => ⟨rfl, rfl⟩) _) (appfitJ (by first | simpa using g727 | (simp at g727 ⊢; omega)) rfl)) ?_)
                        refine Exists.intro ([].map gSpot.enc) (And.intro (rowX (rowN (show [] = [].map gSpot.enc by simp) (show 0 = ([].map gSpot.enc).length by simp)) (fits_map (e := gSpot.enc) (fun _ => ⟨rfl, rfl⟩) _) (appfitJ (by first | simpa using g724 | (simp at g724 ⊢; omega)) rfl)) ?_)
                        exact ⟨(), h, [(999999, 0), (999999, 1), (999999, 5), (999999, 2), (999999, 3), (999999, 4)], ⟨rfl, rfl, rfl, rfl, rfl, trivial⟩, ⟨⟨rfl, rfl, rfl, rfl, rfl, trivial⟩, ⟨rfl, rfl, rfl, rfl, rfl, trivial⟩, ⟨rfl, rfl, (congrArg (AV.row 3 3 0) (show a47.edges_.length = (0 + (a47.edges_.map gSEdge.enc : List PV).length) by simp)), (congrArg (AV.row 4 2 0) (show a47.decls_.length = (0 + (a47.decls_.map gSpot.enc : List PV).length) by simp)), (congrArg (AV.row 5 2 0) (show a47.refs_.length = (0 + (a47.refs_.map gSpot.enc : List PV).length) by simp)), trivial⟩, (congrArg (Bk.row 165 3) (show a47.edges_.map gSEdge.enc = ([].map gSEdge.enc) ++ (a47.edges_.map gSEdge.enc) by simp)), (congrArg (Bk.row 71 2) (show a47.decls_.map gSpot.enc = ([].map gSpot.enc) ++ (a47.decls_.map gSpot.enc) by simp)), (congrArg (Bk.row 71 2) (show a47.refs_.map gSpot.enc = ([].map gSpot.enc) ++ (a47.refs_.map gSpot.enc) by simp)), trivial⟩, rfl⟩
                    · refine And.intro ?_ ?_
                      · skip
                        refine Exists.intro ([].map gSpot.enc) (And.intro (rowX (rowN (show [] = [].map gSpot.enc by simp) (show 0 = ([].map gSpot.enc).length by simp)) (fits_map (e := gSpot.enc) (fun _ => ⟨rfl, rfl⟩) _) (appfitJ (by first | simpa using g727 | (simp at g727 ⊢; omega)) rfl)) ?_)
                        refine And.intro (show fits _ _ from trivial) ?_
                        refine Exists.intro ([].map gSpot.enc) (And.intro (rowX (rowN (show [] = [].map gSpot.enc by simp) (show 0 = ([].map gSpot.enc).length by simp)) (fits_map (e := gSpot.enc) (fun _ => ⟨rfl, rfl⟩) _) (appfitJ (by first | simpa using g724 | (simp at g724 ⊢; omega)) rfl)) ?_)
                        exact ⟨(), h, [(999999, 0), (999999, 1), (999999, 4), (999999, 2), (999999, 3), (999999, 5)], ⟨rfl, rfl, rfl, rfl, rfl, trivial⟩, ⟨⟨rfl, rfl, rfl, rfl, rfl, trivial⟩, ⟨rfl, rfl, rfl, rfl, rfl, trivial⟩, ⟨rfl, rfl, (congrArg (AV.row 3 3 0) (show a47.edges_.length = (0 + (a47.edges_.map gSEdge.enc : List PV).length) by simp)), (congrArg (AV.row 4 2 0) (show a47.decls_.length = (0 + (a47.decls_.map gSpot.enc : List PV).length) by simp)), (congrArg (AV.row 5 2 0) (show a47.refs_.length = (0 + (a47.refs_.map gSpot.enc : List PV).length) by simp)), trivial⟩, (congrArg (Bk.row 165 3) (show a47.edges_.map gSEdge.enc = ([].map gSEdge.enc) ++ (a47.edges_.map gSEdge.enc) by simp)), (congrArg (Bk.row 71 2) (show a47.decls_.map gSpot.enc = ([].map gSpot.enc) ++ (a47.decls_.map gSpot.enc) by simp)), (congrArg (Bk.row 71 2) (show a47.refs_.map gSpot.enc = ([].map gSpot.enc) ++ (a47.refs_.map gSpot.enc) by simp)), trivial⟩, rfl⟩
                      · refine And.intro (show fits _ _ from trivial) ?_
                        refine Exists.intro ([].map gSpot.enc) (And.intro (rowX (rowN (show [] = [].map gSpot.enc by simp) (show 0 = ([].map gSpot.enc).length by simp)) (fits_map (e := gSpot.enc) (fun _ => ⟨rfl, rfl⟩) _) (appfitJ (by first | simpa using g727 | (simp at g727 ⊢; omega)) rfl)) ?_)
                        refine Exists.intro ([].map gSpot.enc) (And.intro (rowX (rowN (show [] = [].map gSpot.enc by simp) (show 0 = ([].map gSpot.enc).length by simp)) (fits_map (e := gSpot.enc) (fun _ => ⟨rfl, rfl⟩) _) (appfitJ (by first | simpa using g724 | (simp at g724 ⊢; omega)) rfl)) ?_)
                        exact ⟨(), h, [(999999, 0), (999999, 1), (999999, 4), (999999, 2), (999999, 3), (999999, 5)], ⟨rfl, rfl, rfl, rfl, rfl, trivial⟩, ⟨⟨rfl, rfl, rfl, rfl, rfl, trivial⟩, ⟨rfl, rfl, rfl, rfl, rfl, trivial⟩, ⟨rfl, rfl, (congrArg (AV.row 3 3 0) (show a47.edges_.length = (0 + (a47.edges_.map gSEdge.enc : List PV).length) by simp)), (congrArg (AV.row 4 2 0) (show a47.decls_.length = (0 + (a47.decls_.map gSpot.enc : List PV).length) by simp)), (congrArg (AV.row 5 2 0) (show a47.refs_.length = (0 + (a47.refs_.map gSpot.enc : List PV).length) by simp)), trivial⟩, (congrArg (Bk.row 165 3) (show a47.edges_.map gSEdge.enc = ([].map gSEdge.enc) ++ (a47.edges_.map gSEdge.enc) by simp)), (congrArg (Bk.row 71 2) (show a47.decls_.map gSpot.enc = ([].map gSpot.enc) ++ (a47.decls_.map gSpot.enc) by simp)), (congrArg (Bk.row 71 2) (show a47.refs_.map gSpot.enc = ([].map gSpot.enc) ++ (a47.refs_.map gSpot.enc) by simp)), trivial⟩, rfl⟩
                · refine And.intro ?_ ?_
                  · refine And.intro (show fits _ _ from trivial) ?_
                    refine And.intro ?_ ?_
                    · skip
                      refine Exists.intro ([].map gSEdge.enc) (And.intro (rowX (rowN (show [] = [].map gSEdge.enc by simp) (show 0 = ([].map gSEdge.enc).length by simp)) (fits_map (e := gSEdge.enc) (fun _ => ⟨rfl, rfl⟩) _) (appfitJ (by first | simpa using g750 | (simp at g750 ⊢; omega)) rfl)) ?_)
                      refine And.intro ?_ ?_
                      · skip
                        refine Exists.intro ([].map gSpot.enc) (And.intro (rowX (rowN (show [] = [].map gSpot.enc by simp) (show 0 = ([].map gSpot.enc).length by simp)) (fits_map (e := gSpot.enc) (fun _ => ⟨rfl, rfl⟩) _) (appfitJ (by first | simpa using g727 | (simp at g727 ⊢; omega)) rfl)) ?_)
                        refine And.intro ?_ ?_
                        · skip
                          refine Exists.intro ([].map gSpot.enc) (And.intro (rowX (rowN (show [] = [].map gSpot.enc by simp) (show 0 = ([].map gSpot.enc).length by simp)) (fits_map (e := gSpot.enc) (fun _ => ⟨rfl, rfl⟩) _) (appfitJ (by first | simpa using g724 | (simp at g724 ⊢; omega)) rfl)) ?_)
                          exact ⟨(), h, [(999999, 0), (999999, 1), (999999, 5), (999999, 2), (999999, 3), (999999, 4)], ⟨rfl, rfl, rfl, rfl, rfl, trivial⟩, ⟨⟨rfl, rfl, rfl, rfl, rfl, trivial⟩, ⟨rfl, rfl, rfl, rfl, rfl, trivial⟩, ⟨rfl, rfl, (congrArg (AV.row 3 3 0) (show a47.edges_.length = (0 + (a47.edges_.map gSEdge.enc : List PV).length) by simp)), (congrArg (AV.row 4 2 0) (show a47.decls_.length = (0 + (a47.decls_.map gSpot.enc : List PV).length) by simp)), (congrArg (AV.row 5 2 0) (show a47.refs_.length = (0 + (a47.refs_.map gSpot.enc : List PV).length) by simp)), trivial⟩, (congrArg (Bk.row 165 3) (show a47.edges_.map gSEdge.enc = ([].map gSEdge.enc) ++ (a47.edges_.map gSEdge.enc) by simp)), (congrArg (Bk.row 71 2) (show a47.decls_.map gSpot.enc = ([].map gSpot.enc) ++ (a47.decls_.map gSpot.enc) by simp)), (congrArg (Bk.row 71 2) (show a47.refs_.map gSpot.enc = ([].map gSpot.enc) ++ (a47.refs_.map gSpot.enc) by simp)), trivial⟩, rfl⟩
                        · skip
                          refine Exists.intro ([].map gSpot.enc) (And.intro (rowX (rowN (show [] = [].map gSpot.enc by simp) (show 0 = ([].map gSpot.enc).length by simp)) (fits_map (e := gSpot.enc) (fun _ => ⟨rfl, rfl⟩) _) (appfitJ (by first | simpa using g724 | (simp at g724 ⊢; omega)) rfl)) ?_)
                          exact ⟨(), h, [(999999, 0), (999999, 1), (999999, 5), (999999, 2), (999999, 3), (999999, 4)], ⟨rfl, rfl, rfl, rfl, rfl, trivial⟩, ⟨⟨rfl, rfl, rfl, rfl, rfl, trivial⟩, ⟨rfl, rfl, rfl, rfl, rfl, trivial⟩, ⟨rfl, rfl, (congrArg (AV.row 3 3 0) (show a47.edges_.length = (0 + (a47.edges_.map gSEdge.enc : List PV).length) by simp)), (congrArg (AV.row 4 2 0) (show a47.decls_.length = (0 + (a47.decls_.map gSpot.enc : List PV).length) by simp)), (congrArg (AV.row 5 2 0) (show a47.refs_.length = (0 + (a47.refs_.map gSpot.enc : List PV).length) by simp)), trivial⟩, (congrArg (Bk.row 165 3) (show a47.edges_.map gSEdge.enc = ([].map gSEdge.enc) ++ (a47.edges_.map gSEdge.enc) by simp)), (congrArg (Bk.row 71 2) (show a47.decls_.map gSpot.enc = ([].map gSpot.enc) ++ (a47.decls_.map gSpot.enc) by simp)), (congrArg (Bk.row 71 2) (show a47.refs_.map gSpot.enc = ([].map gSpot.enc) ++ (a47.refs_.map gSpot.enc) by simp)), trivial⟩, rfl⟩
                      · skip
                        refine Exists.intro ([].map gSpot.enc) (And.intro (rowX (rowN (show [] = [].map gSpot.enc by simp) (show 0 = ([].map gSpot.enc).length by simp)) (fits_map (e := gSpot.enc) (fun _ => ⟨rfl, rfl⟩) _) (appfitJ (by first | simpa using g727 | (simp at g727 ⊢; omega)) rfl)) ?_)
                        refine Exists.intro ([].map gSpot.enc) (And.intro (rowX (rowN (show [] = [].map gSpot.enc by simp) (show 0 = ([].map gSpot.enc).length by simp)) (fits_map (e := gSpot.enc) (fun _ => ⟨rfl, rfl⟩) _) (appfitJ (by first | simpa using g724 | (simp at g724 ⊢; omega)) rfl)) ?_)
                        exact ⟨(), h, [(999999, 0), (999999, 1), (999999, 5), (999999, 2), (999999, 3), (999999, 4)], ⟨rfl, rfl, rfl, rfl, rfl, trivial⟩, ⟨⟨rfl, rfl, rfl, rfl, rfl, trivial⟩, ⟨rfl, rfl, rfl, rfl, rfl, trivial⟩, ⟨rfl, rfl, (congrArg (AV.row 3 3 0) (show a47.edges_.length = (0 + (a47.edges_.map gSEdge.enc : List PV).length) by simp)), (congrArg (AV.row 4 2 0) (show a47.decls_.length = (0 + (a47.decls_.map gSpot.enc : List PV).length) by simp)), (congrArg (AV.row 5 2 0) (show a47.refs_.length = (0 + (a47.refs_.map gSpot.enc : List PV).length) by simp)), trivial⟩, (congrArg (Bk.row 165 3) (show a47.edges_.map gSEdge.enc = ([].map gSEdge.enc) ++ (a47.edges_.map gSEdge.enc) by simp)), (congrArg (Bk.row 71 2) (show a47.decls_.map gSpot.enc = ([].map gSpot.enc) ++ (a47.decls_.map gSpot.enc) by simp)), (congrArg (Bk.row 71 2) (show a47.refs_.map gSpot.enc = ([].map gSpot.enc) ++ (a47.refs_.map gSpot.enc) by simp)), trivial⟩, rfl⟩
                    · skip
                      refine Exists.intro ([].map gSEdge.enc) (And.intro (rowX (rowN (show [] = [].map gSEdge.enc by simp) (show 0 = ([].map gSEdge.enc).length by simp)) (fits_map (e := gSEdge.enc) (fun _ => ⟨rfl, rfl⟩) _) (appfitJ (by first | simpa using g750 | (simp at g750 ⊢; omega)) rfl)) ?_)
                      refine Exists.intro ([].map gSpot.enc) (And.intro (rowX (rowN (show [] = [].map gSpot.enc by simp) (show 0 = ([].map gSpot.enc).length by simp)) (fits_map (e := gSpot.enc) (fun _ => ⟨rfl, rfl⟩) _) (appfitJ (by first | simpa using g727 | (simp at g727 ⊢; omega)) rfl)) ?_)
                      refine Exists.intro ([].map gSpot.enc) (And.intro (rowX (rowN (show [] = [].map gSpot.enc by simp) (show 0 = ([].map gSpot.enc).length by simp)) (fits_map (e := gSpot.enc) (fun _ => ⟨rfl, rfl⟩) _) (appfitJ (by first | simpa using g724 | (simp at g724 ⊢; omega)) rfl)) ?_)
                      exact ⟨(), h, [(999999, 0), (999999, 1), (999999, 5), (999999, 2), (999999, 3), (999999, 4)], ⟨rfl, rfl, rfl, rfl, rfl, trivial⟩, ⟨⟨rfl, rfl, rfl, rfl, rfl, trivial⟩, ⟨rfl, rfl, rfl, rfl, rfl, trivial⟩, ⟨rfl, rfl, (congrArg (AV.row 3 3 0) (show a47.edges_.length = (0 + (a47.edges_.map gSEdge.enc : List PV).length) by simp)), (congrArg (AV.row 4 2 0) (show a47.decls_.length = (0 + (a47.decls_.map gSpot.enc : List PV).length) by simp)), (congrArg (AV.row 5 2 0) (show a47.refs_.length = (0 + (a47.refs_.map gSpot.enc : List PV).length) by simp)), trivial⟩, (congrArg (Bk.row 165 3) (show a47.edges_.map gSEdge.enc = ([].map gSEdge.enc) ++ (a47.edges_.map gSEdge.enc) by simp)), (congrArg (Bk.row 71 2) (show a47.decls_.map gSpot.enc = ([].map gSpot.enc) ++ (a47.decls_.map gSpot.enc) by simp)), (congrArg (Bk.row 71 2) (show a47.refs_.map gSpot.enc = ([].map gSpot.enc) ++ (a47.refs_.map gSpot.enc) by simp)), trivial⟩, rfl⟩
                  · refine And.intro ?_ ?_
                    · skip
                      refine Exists.intro ([].map gSEdge.enc) (And.intro (rowX (rowN (show [] = [].map gSEdge.enc by simp) (show 0 = ([].map gSEdge.enc).length by simp)) (fits_map (e := gSEdge.enc) (fun _ => ⟨rfl, rfl⟩) _) (appfitJ (by first | simpa using g750 | (simp at g750 ⊢; omega)) rfl)) ?_)
                      refine And.intro ?_ ?_
                      · skip
                        refine Exists.intro ([].map gSpot.enc) (And.intro (rowX (rowN (show [] = [].map gSpot.enc by simp) (show 0 = ([].map gSpot.enc).length by simp)) (fits_map (e := gSpot.enc) (fun _ => ⟨rfl, rfl⟩) _) (appfitJ (by first | simpa using g727 | (simp at g727 ⊢; omega)) rfl)) ?_)
                        refine And.intro (show fits _ _ from trivial) ?_
                        refine Exists.intro ([].map gSpot.enc) (And.intro (rowX (rowN (show [] = [].map gSpot.enc by simp) (show 0 = ([].map gSpot.enc).length by simp)) (fits_map (e := gSpot.enc) (fun _ => ⟨rfl, rfl⟩) _) (appfitJ (by first | simpa using g724 | (simp at g724 ⊢; omega)) rfl)) ?_)
                        exact ⟨(), h, [(999999, 0), (999999, 1), (999999, 4), (999999, 2), (999999, 3), (999999, 5)], ⟨rfl, rfl, rfl, rfl, rfl, trivial⟩, ⟨⟨rfl, rfl, rfl, rfl, rfl, trivial⟩, ⟨rfl, rfl, rfl, rfl, rfl, trivial⟩, ⟨rfl, rfl, (congrArg (AV.row 3 3 0) (show a47.edges_.length = (0 + (a47.edges_.map gSEdge.enc : List PV).length) by simp)), (congrArg (AV.row 4 2 0) (show a47.decls_.length = (0 + (a47.decls_.map gSpot.enc : List PV).length) by simp)), (congrArg (AV.row 5 2 0) (show a47.refs_.length = (0 + (a47.refs_.map gSpot.enc : List PV).length) by simp)), trivial⟩, (congrArg (Bk.row 165 3) (show a47.edges_.map gSEdge.enc = ([].map gSEdge.enc) ++ (a47.edges_.map gSEdge.enc) by simp)), (congrArg (Bk.row 71 2) (show a47.decls_.map gSpot.enc = ([].map gSpot.enc) ++ (a47.decls_.map gSpot.enc) by simp)), (congrArg (Bk.row 71 2) (show a47.refs_.map gSpot.enc = ([].map gSpot.enc) ++ (a47.refs_.map gSpot.enc) by simp)), trivial⟩, rfl⟩
                      · refine And.intro (show fits _ _ from trivial) ?_
                        refine Exists.intro ([].map gSpot.enc) (And.intro (rowX (rowN (show [] = [].map gSpot.enc by simp) (show 0 = ([].map gSpot.enc).length by simp)) (fits_map (e := gSpot.enc) (fun _ => ⟨rfl, rfl⟩) _) (appfitJ (by first | simpa using g727 | (simp at g727 ⊢; omega)) rfl)) ?_)
                        refine Exists.intro ([].map gSpot.enc) (And.intro (rowX (rowN (show [] = [].map gSpot.enc by simp) (show 0 = ([].map gSpot.enc).length by simp)) (fits_map (e := gSpot.enc) (fun _ => ⟨rfl, rfl⟩) _) (appfitJ (by first | simpa using g724 | (simp at g724 ⊢; omega)) rfl)) ?_)
                        exact ⟨(), h, [(999999, 0), (999999, 1), (999999, 4), (999999, 2), (999999, 3), (999999, 5)], ⟨rfl, rfl, rfl, rfl, rfl, trivial⟩, ⟨⟨rfl, rfl, rfl, rfl, rfl, trivial⟩, ⟨rfl, rfl, rfl, rfl, rfl, trivial⟩, ⟨rfl, rfl, (congrArg (AV.row 3 3 0) (show a47.edges_.length = (0 + (a47.edges_.map gSEdge.enc : List PV).length) by simp)), (congrArg (AV.row 4 2 0) (show a47.decls_.length = (0 + (a47.decls_.map gSpot.enc : List PV).length) by simp)), (congrArg (AV.row 5 2 0) (show a47.refs_.length = (0 + (a47.refs_.map gSpot.enc : List PV).length) by simp)), trivial⟩, (congrArg (Bk.row 165 3) (show a47.edges_.map gSEdge.enc = ([].map gSEdge.enc) ++ (a47.edges_.map gSEdge.enc) by simp)), (congrArg (Bk.row 71 2) (show a47.decls_.map gSpot.enc = ([].map gSpot.enc) ++ (a47.decls_.map gSpot.enc) by simp)), (congrArg (Bk.row 71 2) (show a47.refs_.map gSpot.enc = ([].map gSpot.enc) ++ (a47.refs_.map gSpot.enc) by simp)), trivial⟩, rfl⟩
                    · refine And.intro (show fits _ _ from trivial) ?_
                      refine Exists.intro ([].map gSEdge.enc) (And.intro (rowX (rowN (show [] = [].map gSEdge.enc by simp) (show 0 = ([].map gSEdge.enc).length by simp)) (fits_map (e := gSEdge.enc) (fun _ => ⟨rfl, rfl⟩) _) (appfitJ (by first | simpa using g750 | (simp at g750 ⊢; omega)) rfl)) ?_)
                      refine Exists.intro ([].map gSpot.enc) (And.intro (rowX (rowN (show [] = [].map gSpot.enc by simp) (show 0 = ([].map gSpot.enc).length by simp)) (fits_map (e := gSpot.enc) (fun _ => ⟨rfl, rfl⟩) _) (appfitJ (by first | simpa using g727 | (simp at g727 ⊢; omega)) rfl)) ?_)
                      refine Exists.intro ([].map gSpot.enc) (And.intro (rowX (rowN (show [] = [].map gSpot.enc by simp) (show 0 = ([].map gSpot.enc).length by simp)) (fits_map (e := gSpot.enc) (fun _ => ⟨rfl, rfl⟩) _) (appfitJ (by first | simpa using g724 | (simp at g724 ⊢; omega)) rfl)) ?_)
                      exact ⟨(), h, [(999999, 0), (999999, 1), (999999, 4), (999999, 2), (999999, 3), (999999, 5)], ⟨rfl, rfl, rfl, rfl, rfl, trivial⟩, ⟨⟨rfl, rfl, rfl, rfl, rfl, trivial⟩, ⟨rfl, rfl, rfl, rfl, rfl, trivial⟩, ⟨rfl, rfl, (congrArg (AV.row 3 3 0) (show a47.edges_.length = (0 + (a47.edges_.map gSEdge.enc : List PV).length) by simp)), (congrArg (AV.row 4 2 0) (show a47.decls_.length = (0 + (a47.decls_.map gSpot.enc : List PV).length) by simp)), (congrArg (AV.row 5 2 0) (show a47.refs_.length = (0 + (a47.refs_.map gSpot.enc : List PV).length) by simp)), trivial⟩, (congrArg (Bk.row 165 3) (show a47.edges_.map gSEdge.enc = ([].map gSEdge.enc) ++ (a47.edges_.map gSEdge.enc) by simp)), (congrArg (Bk.row 71 2) (show a47.decls_.map gSpot.enc = ([].map gSpot.enc) ++ (a47.decls_.map gSpot.enc) by simp)), (congrArg (Bk.row 71 2) (show a47.refs_.map gSpot.enc = ([].map gSpot.enc) ++ (a47.refs_.map gSpot.enc) by simp)), trivial⟩, rfl⟩
              · refine And.intro ?_ ?_
                · refine And.intro (show fits _ _ from trivial) ?_
                  refine And.intro ?_ ?_
                  · skip
                    refine Exists.intro ([].map gSEdge.enc) (And.intro (rowX (rowN (show [] = [].map gSEdge.enc by simp) (show 0 = ([].map gSEdge.enc).length by simp)) (fits_map (e := gSEdge.enc) (fun _ => ⟨rfl, rfl⟩) _) (appfitJ (by first | simpa using g750 | (simp at g750 ⊢; omega)) rfl)) ?_)
                    refine And.intro ?_ ?_
                    · refine And.intro (show fits _ _ from trivial) ?_
                      refine And.intro ?_ ?_
                      · skip
                        refine Exists.intro ([].map gSpot.enc) (And.intro (rowX (rowN (show [] = [].map gSpot.enc by simp) (show 0 = ([].map gSpot.enc).length by simp)) (fits_map (e := gSpot.enc) (fun _ => ⟨rfl, rfl⟩) _) (appfitJ (by first | simpa using g727 | (simp at g727 ⊢; omega)) rfl)) ?_)
                        refine And.intro ?_ ?_
                        · skip
                          refine Exists.intro ([].map gSpot.enc) (And.intro (rowX (rowN (show [] = [].map gSpot.enc by simp) (show 0 = ([].map gSpot.enc).length by simp)) (fits_map (e := gSpot.enc) (fun _ => ⟨rfl, rfl⟩) _) (appfitJ (by first | simpa using g724 | (simp at g724 ⊢; omega)) rfl)) ?_)
                          exact ⟨(), h, [(999999, 0), (999999, 1), (999999, 5), (999999, 2), (999999, 4), (999999, 3)], ⟨rfl, rfl, rfl, rfl, rfl, trivial⟩, ⟨⟨rfl, rfl, rfl, rfl, rfl, trivial⟩, ⟨rfl, rfl, rfl, rfl, rfl, trivial⟩, ⟨rfl, rfl, (congrArg (AV.row 3 3 0) (show a47.edges_.length = (0 + (a47.edges_.map gSEdge.enc : List PV).length) by simp)), (congrArg (AV.row 4 2 0) (show a47.decls_.length = (0 + (a47.decls_.map gSpot.enc : List PV).length) by simp)), (congrArg (AV.row 5 2 0) (show a47.refs_.length = (0 + (a47.refs_.map gSpot.enc : List PV).length) by simp)), trivial⟩, (congrArg (Bk.row 165 3) (show a47.edges_.map gSEdge.enc = ([].map gSEdge.enc) ++ (a47.edges_.map gSEdge.enc) by simp)), (congrArg (Bk.row 71 2) (show a47.decls_.map gSpot.enc = ([].map gSpot.enc) ++ (a47.decls_.map gSpot.enc) by simp)), (congrArg (Bk.row 71 2) (show a47.refs_.map gSpot.enc = ([].map gSpot.enc) ++ (a47.refs_.map gSpot.enc) by simp)), trivial⟩, rfl⟩
                        · skip
                          refine Exists.intro ([].map gSpot.enc) (And.intro (rowX (rowN (show [] = [].map gSpot.enc by simp) (show 0 = ([].map gSpot.enc).length by simp)) (fits_map (e := gSpot.enc) (fun _ => ⟨rfl, rfl⟩) _) (appfitJ (by first | simpa using g724 | (simp at g724 ⊢; omega)) rfl)) ?_)
                          exact ⟨(), h, [(999999, 0), (999999, 1), (999999, 5), (999999, 2), (999999, 4), (999999, 3)], ⟨rfl, rfl, rfl, rfl, rfl, trivial⟩, ⟨⟨rfl, rfl, rfl, rfl, rfl, trivial⟩, ⟨rfl, rfl, rfl, rfl, rfl, trivial⟩, ⟨rfl, rfl, (congrArg (AV.row 3 3 0) (show a47.edges_.length = (0 + (a47.edges_.map gSEdge.enc : List PV).length) by simp)), (congrArg (AV.row 4 2 0) (show a47.decls_.length = (0 + (a47.decls_.map gSpot.enc : List PV).length) by simp)), (congrArg (AV.row 5 2 0) (show a47.refs_.length = (0 + (a47.refs_.map gSpot.enc : List PV).length) by simp)), trivial⟩, (congrArg (Bk.row 165 3) (show a47.edges_.map gSEdge.enc = ([].map gSEdge.enc) ++ (a47.edges_.map gSEdge.enc) by simp)), (congrArg (Bk.row 71 2) (show a47.decls_.map gSpot.enc = ([].map gSpot.enc) ++ (a47.decls_.map gSpot.enc) by simp)), (congrArg (Bk.row 71 2) (show a47.refs_.map gSpot.enc = ([].map gSpot.enc) ++ (a47.refs_.map gSpot.enc) by simp)), trivial⟩, rfl⟩
                      · skip
                        refine Exists.intro ([].map gSpot.enc) (And.intro (rowX (rowN (show [] = [].map gSpot.enc by simp) (show 0 = ([].map gSpot.enc).length by simp)) (fits_map (e := gSpot.enc) (fun _ => ⟨rfl, rfl⟩) _) (appfitJ (by first | simpa using g727 | (simp at g727 ⊢; omega)) rfl)) ?_)
                        refine Exists.intro ([].map gSpot.enc) (And.intro (rowX (rowN (show [] = [].map gSpot.enc by simp) (show 0 = ([].map gSpot.enc).length by simp)) (fits_map (e := gSpot.enc) (fun _ => ⟨rfl, rfl⟩) _) (appfitJ (by first | simpa using g724 | (simp at g724 ⊢; omega)) rfl)) ?_)
                        exact ⟨(), h, [(999999, 0), (999999, 1), (999999, 5), (999999, 2), (999999, 4), (999999, 3)], ⟨rfl, rfl, rfl, rfl, rfl, trivial⟩, ⟨⟨rfl, rfl, rfl, rfl, rfl, trivial⟩, ⟨rfl, rfl, rfl, rfl, rfl, trivial⟩, ⟨rfl, rfl, (congrArg (AV.row 3 3 0) (show a47.edges_.length = (0 + (a47.edges_.map gSEdge.enc : List PV).length) by simp)), (congrArg (AV.row 4 2 0) (show a47.decls_.length = (0 + (a47.decls_.map gSpot.enc : List PV).length) by simp)), (congrArg (AV.row 5 2 0) (show a47.refs_.length = (0 + (a47.refs_.map gSpot.enc : List PV).length) by simp)), trivial⟩, (congrArg (Bk.row 165 3) (show a47.edges_.map gSEdge.enc = ([].map gSEdge.enc) ++ (a47.edges_.map gSEdge.enc) by simp)), (congrArg (Bk.row 71 2) (show a47.decls_.map gSpot.enc = ([].map gSpot.enc) ++ (a47.decls_.map gSpot.enc) by simp)), (congrArg (Bk.row 71 2) (show a47.refs_.map gSpot.enc = ([].map gSpot.enc) ++ (a47.refs_.map gSpot.enc) by simp)), trivial⟩, rfl⟩
                    · refine And.intro (show fits _ _ from trivial) ?_
                      refine Exists.intro ([].map gSpot.enc) (And.intro (rowX (rowN (show [] = [].map gSpot.enc by simp) (show 0 = ([].map gSpot.enc).length by simp)) (fits_map (e := gSpot.enc) (fun _ => ⟨rfl, rfl⟩) _) (appfitJ (by first | simpa using g727 | (simp at g727 ⊢; omega)) rfl)) ?_)
                      refine Exists.intro ([].map gSpot.enc) (And.intro (rowX (rowN (show [] = [].map gSpot.enc by simp) (show 0 = ([].map gSpot.enc).length by simp)) (fits_map (e := gSpot.enc) (fun _ => ⟨rfl, rfl⟩) _) (appfitJ (by first | simpa using g724 | (simp at g724 ⊢; omega)) rfl)) ?_)
                      exact ⟨(), h, [(999999, 0), (999999, 1), (999999, 4), (999999, 2), (999999, 5), (999999, 3)], ⟨rfl, rfl, rfl, rfl, rfl, trivial⟩, ⟨⟨rfl, rfl, rfl, rfl, rfl, trivial⟩, ⟨rfl, rfl, rfl, rfl, rfl, trivial⟩, ⟨rfl, rfl, (congrArg (AV.row 3 3 0) (show a47.edges_.length = (0 + (a47.edges_.map gSEdge.enc : List PV).length) by simp)), (congrArg (AV.row 4 2 0) (show a47.decls_.length = (0 + (a47.decls_.map gSpot.enc : List PV).length) by simp)), (congrArg (AV.row 5 2 0) (show a47.refs_.length = (0 + (a47.refs_.map gSpot.enc : List PV).length) by simp)), trivial⟩, (congrArg (Bk.row 165 3) (show a47.edges_.map gSEdge.enc = ([].map gSEdge.enc) ++ (a47.edges_.map gSEdge.enc) by simp)), (congrArg (Bk.row 71 2) (show a47.decls_.map gSpot.enc = ([].map gSpot.enc) ++ (a47.decls_.map gSpot.enc) by simp)), (congrArg (Bk.row 71 2) (show a47.refs_.map gSpot.enc = ([].map gSpot.enc) ++ (a47.refs_.map gSpot.enc) by simp)), trivial⟩, rfl⟩
                  · refine And.intro ?_ ?_
                    · refine And.intro (show fits _ _ from trivial) ?_
                      refine And.intro ?_ ?_
                      · skip
                        refine Exists.intro ([].map gSEdge.enc) (And.intro (rowX (rowN (show [] = [].map gSEdge.enc by simp) (show 0 = ([].map gSEdge.enc).length by simp)) (fits_map (e := gSEdge.enc) (fun _ => ⟨rfl, rfl⟩) _) (appfitJ (by first | simpa using g750 | (simp at g750 ⊢; omega)) rfl)) ?_)
                        refine And.intro ?_ ?_
                        · skip
                          refine Exists.intro ([].map gSpot.enc) (And.intro (rowX (rowN (show [] = [].map gSpot.enc by simp) (show 0 = ([].map gSpot.enc).length by simp)) (fits_map (e := gSpot.enc) (fun _ => ⟨rfl, rfl⟩) _) (appfitJ (by first | simpa using g727 | (simp at g727 ⊢; omega)) rfl)) ?_)
                          refine And.intro ?_ ?_
                          · skip
                            refine Exists.intro ([].map gSpot.enc) (And.intro (rowX (rowN (show [] = [].map gSpot.enc by simp) (show 0 = ([].map gSpot.enc).length by simp)) (fits_map (e := gSpot.enc) (fun _ => ⟨rfl, rfl⟩) _) (appfitJ (by first | simpa using g724 | (simp at g724 ⊢; omega)) rfl)) ?_)
                            exact ⟨(), h, [(999999, 0), (999999, 1), (999999, 5), (999999, 2), (999999, 4), (999999, 3)], ⟨rfl, rfl, rfl, rfl, rfl, trivial⟩, ⟨⟨rfl, rfl, rfl, rfl, rfl, trivial⟩, ⟨rfl, rfl, rfl, rfl, rfl, trivial⟩, ⟨rfl, rfl, (congrArg (AV.row 3 3 0) (show a47.edges_.length = (0 + (a47.edges_.map gSEdge.enc : List PV).length) by simp)), (congrArg (AV.row 4 2 0) (show a47.decls_.length = (0 + (a47.decls_.map gSpot.enc : List PV).length) by simp)), (congrArg (AV.row 5 2 0) (show a47.refs_.length = (0 + (a47.refs_.map gSpot.enc : List PV).length) by simp)), trivial⟩, (congrArg (Bk.row 165 3) (show a47.edges_.map gSEdge.enc = ([].map gSEdge.enc) ++ (a47.edges_.map gSEdge.enc) by simp)), (congrArg (Bk.row 71 2) (show a47.decls_.map gSpot.enc = ([].map gSpot.enc) ++ (a47.decls_.map gSpot.enc) by simp)), (congrArg (Bk.row 71 2) (show a47.refs_.map gSpot.enc = ([].map gSpot.enc) ++ (a47.refs_.map gSpot.enc) by simp)), trivial⟩, rfl⟩
                          · skip
                            refine Exists.intro ([].map gSpot.enc) (And.intro (rowX (rowN (show [] = [].map gSpot.enc by simp) (show 0 = ([].map gSpot.enc).length by simp)) (fits_map (e := gSpot.enc) (fun _ => ⟨rfl, rfl⟩) _) (appfitJ (by first | simpa using g724 | (simp at g724 ⊢; omega)) rfl)) ?_)
                            exact ⟨(), h, [(999999, 0), (999999, 1), (999999, 5), (999999, 2), (999999, 4), (999999, 3)], ⟨rfl, rfl, rfl, rfl, rfl, trivial⟩, ⟨⟨rfl, rfl, rfl, rfl, rfl, trivial⟩, ⟨rfl, rfl, rfl, rfl, rfl, trivial⟩, ⟨rfl, rfl, (congrArg (AV.row 3 3 0) (show a47.edges_.length = (0 + (a47.edges_.map gSEdge.enc : List PV).length) by simp)), (congrArg (AV.row 4 2 0) (show a47.decls_.length = (0 + (a47.decls_.map gSpot.enc : List PV).length) by simp)), (congrArg (AV.row 5 2 0) (show a47.refs_.length = (0 + (a47.refs_.map gSpot.enc : List PV).length) by simp)), trivial⟩, (congrArg (Bk.row 165 3) (show a47.edges_.map gSEdge.enc = ([].map gSEdge.enc) ++ (a47.edges_.map gSEdge.enc) by simp)), (congrArg (Bk.row 71 2) (show a47.decls_.map gSpot.enc = ([].map gSpot.enc) ++ (a47.decls_.map gSpot.enc) by simp)), (congrArg (Bk.row 71 2) (show a47.refs_.map gSpot.enc = ([].map gSpot.enc) ++ (a47.refs_.map gSpot.enc) by simp)), trivial⟩, rfl⟩
                        · skip
                          refine Exists.intro ([].map gSpot.enc) (And.intro (rowX (rowN (show [] = [].map gSpot.enc by simp) (show 0 = ([].map gSpot.enc).length by simp)) (fits_map (e := gSpot.enc) (fun _ => ⟨rfl, rfl⟩) _) (appfitJ (by first | simpa using g727 | (simp at g727 ⊢; omega)) rfl)) ?_)
                          refine Exists.intro ([].map gSpot.enc) (And.intro (rowX (rowN (show [] = [].map gSpot.enc by simp) (show 0 = ([].map gSpot.enc).length by simp)) (fits_map (e := gSpot.enc) (fun _ => ⟨rfl, rfl⟩) _) (appfitJ (by first | simpa using g724 | (simp at g724 ⊢; omega)) rfl)) ?_)
                          exact ⟨(), h, [(999999, 0), (999999, 1), (999999, 5), (999999, 2), (999999, 4), (999999, 3)], ⟨rfl, rfl, rfl, rfl, rfl, trivial⟩, ⟨⟨rfl, rfl, rfl, rfl, rfl, trivial⟩, ⟨rfl, rfl, rfl, rfl, rfl, trivial⟩, ⟨rfl, rfl, (congrArg (AV.row 3 3 0) (show a47.edges_.length = (0 + (a47.edges_.map gSEdge.enc : List PV).length) by simp)), (congrArg (AV.row 4 2 0) (show a47.decls_.length = (0 + (a47.decls_.map gSpot.enc : List PV).length) by simp)), (congrArg (AV.row 5 2 0) (show a47.refs_.length = (0 + (a47.refs_.map gSpot.enc : List PV).length) by simp)), trivial⟩, (congrArg (Bk.row 165 3) (show a47.edges_.map gSEdge.enc = ([].map gSEdge.enc) ++ (a47.edges_.map gSEdge.enc) by simp)), (congrArg (Bk.row 71 2) (show a47.decls_.map gSpot.enc = ([].map gSpot.enc) ++ (a47.decls_.map gSpot.enc) by simp)), (congrArg (Bk.row 71 2) (show a47.refs_.map gSpot.enc = ([].map gSpot.enc) ++ (a47.refs_.map gSpot.enc) by simp)), trivial⟩, rfl⟩
                      · skip
                        refine Exists.intro ([].map gSEdge.enc) (And.intro (rowX (rowN (show [] = [].map gSEdge.enc by simp) (show 0 = ([].map gSEdge.enc).length by simp)) (fits_map (e := gSEdge.enc) (fun _ => ⟨rfl, rfl⟩) _) (appfitJ (by first | simpa using g750 | (simp at g750 ⊢; omega)) rfl)) ?_)
                        refine Exists.intro ([].map gSpot.enc) (And.intro (rowX (rowN (show [] = [].map gSpot.enc by simp) (show 0 = ([].map gSpot.enc).length by simp)) (fits_map (e := gSpot.enc) (fun _ => ⟨rfl, rfl⟩) _) (appfitJ (by first | simpa using g727 | (simp at g727 ⊢; omega)) rfl)) ?_)
                        refine Exists.intro ([].map gSpot.enc) (And.intro (rowX (rowN (show [] = [].map gSpot.enc by simp) (show 0 = ([].map gSpot.enc).length by simp)) (fits_map (e := gSpot.enc) (fun _ => ⟨rfl, rfl⟩) _) (appfitJ (by first | simpa using g724 | (simp at g724 ⊢; omega)) rfl)) ?_)
                        exact ⟨(), h, [(999999, 0), (999999, 1), (999999, 5), (999999, 2), (999999, 4), (999999, 3)], ⟨rfl, rfl, rfl, rfl, rfl, trivial⟩, ⟨⟨rfl, rfl, rfl, rfl, rfl, trivial⟩, ⟨rfl, rfl, rfl, rfl, rfl, trivial⟩, ⟨rfl, rfl, (congrArg (AV.row 3 3 0) (show a47.edges_.length = (0 + (a47.edges_.map gSEdge.enc : List PV).length) by simp)), (congrArg (AV.row 4 2 0) (show a47.decls_.length = (0 + (a47.decls_.map gSpot.enc : List PV).length) by simp)), (congrArg (AV.row 5 2 0) (show a47.refs_.length = (0 + (a47.refs_.map gSpot.enc : List PV).length) by simp)), trivial⟩, (congrArg (Bk.row 165 3) (show a47.edges_.map gSEdge.enc = ([].map gSEdge.enc) ++ (a47.edges_.map gSEdge.enc) by simp)), (congrArg (Bk.row 71 2) (show a47.decls_.map gSpot.enc = ([].map gSpot.enc) ++ (a47.decls_.map gSpot.enc) by simp)), (congrArg (Bk.row 71 2) (show a47.refs_.map gSpot.enc = ([].map gSpot.enc) ++ (a47.refs_.map gSpot.enc) by simp)), trivial⟩, rfl⟩
                    · refine And.intro ?_ ?_
                      · skip
                        refine Exists.intro ([].map gSEdge.enc) (And.intro (rowX (rowN (show [] = [].map gSEdge.enc by simp) (show 0 = ([].map gSEdge.enc).length by simp)) (fits_map (e := gSEdge.enc) (fun _ => ⟨rfl, rfl⟩) _) (appfitJ (by first | simpa using g750 | (simp at g750 ⊢; omega)) rfl)) ?_)
                        refine And.intro (show fits _ _ from trivial) ?_
                        refine Exists.intro ([].map gSpot.enc) (And.intro (rowX (rowN (show [] = [].map gSpot.enc by simp) (show 0 = ([].map gSpot.enc).length by simp)) (fits_map (e := gSpot.enc) (fun _ => ⟨rfl, rfl⟩) _) (appfitJ (by first | simpa using g727 | (simp at g727 ⊢; omega)) rfl)) ?_)
                        refine Exists.intro ([].map gSpot.enc) (And.intro (rowX (rowN (show [] = [].map gSpot.enc by simp) (show 0 = ([].map gSpot.enc).length by simp)) (fits_map (e := gSpot.enc) (fun _ => ⟨rfl, rfl⟩) _) (appfitJ (by first | simpa using g724 | (simp at g724 ⊢; omega)) rfl)) ?_)
                        exact ⟨(), h, [(999999, 0), (999999, 1), (999999, 4), (999999, 2), (999999, 5), (999999, 3)], ⟨rfl, rfl, rfl, rfl, rfl, trivial⟩, ⟨⟨rfl, rfl, rfl, rfl, rfl, trivial⟩, ⟨rfl, rfl, rfl, rfl, rfl, trivial⟩, ⟨rfl, rfl, (congrArg (AV.row 3 3 0) (show a47.edges_.length = (0 + (a47.edges_.map gSEdge.enc : List PV).length) by simp)), (congrArg (AV.row 4 2 0) (show a47.decls_.length = (0 + (a47.decls_.map gSpot.enc : List PV).length) by simp)), (congrArg (AV.row 5 2 0) (show a47.refs_.length = (0 + (a47.refs_.map gSpot.enc : List PV).length) by simp)), trivial⟩, (congrArg (Bk.row 165 3) (show a47.edges_.map gSEdge.enc = ([].map gSEdge.enc) ++ (a47.edges_.map gSEdge.enc) by simp)), (congrArg (Bk.row 71 2) (show a47.decls_.map gSpot.enc = ([].map gSpot.enc) ++ (a47.decls_.map gSpot.enc) by simp)), (congrArg (Bk.row 71 2) (show a47.refs_.map gSpot.enc = ([].map gSpot.enc) ++ (a47.refs_.map gSpot.enc) by simp)), trivial⟩, rfl⟩
                      · refine And.intro (show fits _ _ from trivial) ?_
                        refine Exists.intro ([].map gSEdge.enc) (And.intro (rowX (rowN (show [] = [].map gSEdge.enc by simp) (show 0 = ([].map gSEdge.enc).length by simp)) (fits_map (e := gSEdge.enc) (fun _ => ⟨rfl, rfl⟩) _) (appfitJ (by first | simpa using g750 | (simp at g750 ⊢; omega)) rfl)) ?_)
                        refine Exists.intro ([].map gSpot.enc) (And.intro (rowX (rowN (show [] = [].map gSpot.enc by simp) (show 0 = ([].map gSpot.enc).length by simp)) (fits_map (e := gSpot.enc) (fun _ => ⟨rfl, rfl⟩) _) (appfitJ (by first | simpa using g727 | (simp at g727 ⊢; omega)) rfl)) ?_)
                        refine Exists.intro ([].map gSpot.enc) (And.intro (rowX (rowN (show [] = [].map gSpot.enc by simp) (show 0 = ([].map gSpot.enc).length by simp)) (fits_map (e := gSpot.enc) (fun _ => ⟨rfl, rfl⟩) _) (appfitJ (by first | simpa using g724 | (simp at g724 ⊢; omega)) rfl)) ?_)
                        exact ⟨(), h, [(999999, 0), (999999, 1), (999999, 4), (999999, 2), (999999, 5), (999999, 3)], ⟨rfl, rfl, rfl, rfl, rfl, trivial⟩, ⟨⟨rfl, rfl, rfl, rfl, rfl, trivial⟩, ⟨rfl, rfl, rfl, rfl, rfl, trivial⟩, ⟨rfl, rfl, (congrArg (AV.row 3 3 0) (show a47.edges_.length = (0 + (a47.edges_.map gSEdge.enc : List PV).length) by simp)), (congrArg (AV.row 4 2 0) (show a47.decls_.length = (0 + (a47.decls_.map gSpot.enc : List PV).length) by simp)), (congrArg (AV.row 5 2 0) (show a47.refs_.length = (0 + (a47.refs_.map gSpot.enc : List PV).length) by simp)), trivial⟩, (congrArg (Bk.row 165 3) (show a47.edges_.map gSEdge.enc = ([].map gSEdge.enc) ++ (a47.edges_.map gSEdge.enc) by simp)), (congrArg (Bk.row 71 2) (show a47.decls_.map gSpot.enc = ([].map gSpot.enc) ++ (a47.decls_.map gSpot.enc) by simp)), (congrArg (Bk.row 71 2) (show a47.refs_.map gSpot.enc = ([].map gSpot.enc) ++ (a47.refs_.map gSpot.enc) by simp)), trivial⟩, rfl⟩
                · refine And.intro ?_ ?_
                  · skip
                    refine Exists.intro ([].map gSEdge.enc) (And.intro (rowX (rowN (show [] = [].map gSEdge.enc by simp) (show 0 = ([].map gSEdge.enc).length by simp)) (fits_map (e := gSEdge.enc) (fun _ => ⟨rfl, rfl⟩) _) (appfitJ (by first | simpa using g750 | (simp at g750 ⊢; omega)) rfl)) ?_)
                    refine And.intro ?_ ?_
                    · refine And.intro (show fits _ _ from trivial) ?_
                      refine And.intro ?_ ?_
                      · skip
                        refine Exists.intro ([].map gSpot.enc) (And.intro (rowX (rowN (show [] = [].map gSpot.enc by simp) (show 0 = ([].map gSpot.enc).length by simp)) (fits_map (e := gSpot.enc) (fun _ => ⟨rfl, rfl⟩) _) (appfitJ (by first | simpa using g727 | (simp at g727 ⊢; omega)) rfl)) ?_)
                        refine And.intro (show fits _ _ from trivial) ?_
                        refine Exists.intro ([].map gSpot.enc) (And.intro (rowX (rowN (show [] = [].map gSpot.enc by simp) (show 0 = ([].map gSpot.enc).length by simp)) (fits_map (e := gSpot.enc) (fun _ => ⟨rfl, rfl⟩) _) (appfitJ (by first | simpa using g724 | (simp at g724 ⊢; omega)) rfl)) ?_)
                        exact ⟨(), h, [(999999, 0), (999999, 1), (999999, 3), (999999, 2), (999999, 4), (999999, 5)], ⟨rfl, rfl, rfl, rfl, rfl, trivial⟩, ⟨⟨rfl, rfl, rfl, rfl, rfl, trivial⟩, ⟨rfl, rfl, rfl, rfl, rfl, trivial⟩, ⟨rfl, rfl, (congrArg (AV.row 3 3 0) (show a47.edges_.length = (0 + (a47.edges_.map gSEdge.enc : List PV).length) by simp)), (congrArg (AV.row 4 2 0) (show a47.decls_.length = (0 + (a47.decls_.map gSpot.enc : List PV).length) by simp)), (congrArg (AV.row 5 2 0) (show a47.refs_.length = (0 + (a47.refs_.map gSpot.enc : List PV).length) by simp)), trivial⟩, (congrArg (Bk.row 165 3) (show a47.edges_.map gSEdge.enc = ([].map gSEdge.enc) ++ (a47.edges_.map gSEdge.enc) by simp)), (congrArg (Bk.row 71 2) (show a47.decls_.map gSpot.enc = ([].map gSpot.enc) ++ (a47.decls_.map gSpot.enc) by simp)), (congrArg (Bk.row 71 2) (show a47.refs_.map gSpot.enc = ([].map gSpot.enc) ++ (a47.refs_.map gSpot.enc) by simp)), trivial⟩, rfl⟩
                      · refine And.intro (show fits _ _ from trivial) ?_
                        refine Exists.intro ([].map gSpot.enc) (And.intro (rowX (rowN (show [] = [].map gSpot.enc by simp) (show 0 = ([].map gSpot.enc).length by simp)) (fits_map (e := gSpot.enc) (fun _ => ⟨rfl, rfl⟩) _) (appfitJ (by first | simpa using g727 | (simp at g727 ⊢; omega)) rfl)) ?_)
                        refine Exists.intro ([].map gSpot.enc) (And.intro (rowX (rowN (show [] = [].map gSpot.enc by simp) (show 0 = ([].map gSpot.enc).length by simp)) (fits_map (e := gSpot.enc) (fun _ => ⟨rfl, rfl⟩) _) (appfitJ (by first | simpa using g724 | (simp at g724 ⊢; omega)) rfl)) ?_)
                        exact ⟨(), h, [(999999, 0), (999999, 1), (999999, 3), (999999, 2), (999999, 4), (999999, 5)], ⟨rfl, rfl, rfl, rfl, rfl, trivial⟩, ⟨⟨rfl, rfl, rfl, rfl, rfl, trivial⟩, ⟨rfl, rfl, rfl, rfl, rfl, trivial⟩, ⟨rfl, rfl, (congrArg (AV.row 3 3 0) (show a47.edges_.length = (0 + (a47.edges_.map gSEdge.enc : List PV).length) by simp)), (congrArg (AV.row 4 2 0) (show a47.decls_.length = (0 + (a47.decls_.map gSpot.enc : List PV).length) by simp)), (congrArg (AV.row 5 2 0) (show a47.refs_.length = (0 + (a47.refs_.map gSpot.enc : List PV).length) by simp)), trivial⟩, (congrArg (Bk.row 165 3) (show a47.edges_.map gSEdge.enc = ([].map gSEdge.enc) ++ (a47.edges_.map gSEdge.enc) by simp)), (congrArg (Bk.row 71 2) (show a47.decls_.map gSpot.enc = ([].map gSpot.enc) ++ (a47.decls_.map gSpot.enc) by simp)), (congrArg (Bk.row 71 2) (show a47.refs_.map gSpot.enc = ([].map gSpot.enc) ++ (a47.refs_.map gSpot.enc) by simp)), trivial⟩, rfl⟩
                    · refine And.intro (show fits _ _ from trivial) ?_
                      refine And.intro (show fits _ _ from trivial) ?_
                      refine Exists.intro ([].map gSpot.enc) (And.intro (rowX (rowN (show [] = [].map gSpot.enc by simp) (show 0 = ([].map gSpot.enc).length by simp)) (fits_map (e := gSpot.enc) (fun _ => ⟨rfl, rfl⟩) _) (appfitJ (by first | simpa using g727 | (simp at g727 ⊢; omega)) rfl)) ?_)
                      refine Exists.intro ([].map gSpot.enc) (And.intro (rowX (rowN (show [] = [].map gSpot.enc by simp) (show 0 = ([].map gSpot.enc).length by simp)) (fits_map (e := gSpot.enc) (fun _ => ⟨rfl, rfl⟩) _) (appfitJ (by first | simpa using g724 | (simp at g724 ⊢; omega)) rfl)) ?_)
                      exact ⟨(), h, [(999999, 0), (999999, 1), (999999, 3), (999999, 2), (999999, 5), (999999, 4)], ⟨rfl, rfl, rfl, rfl, rfl, trivial⟩, ⟨⟨rfl, rfl, rfl, rfl, rfl, trivial⟩, ⟨rfl, rfl, rfl, rfl, rfl, trivial⟩, ⟨rfl, rfl, (congrArg (AV.row 3 3 0) (show a47.edges_.length = (0 + (a47.edges_.map gSEdge.enc : List PV).length) by simp)), (congrArg (AV.row 4 2 0) (show a47.decls_.length = (0 + (a47.decls_.map gSpot.enc : List PV).length) by simp)), (congrArg (AV.row 5 2 0) (show a47.refs_.length = (0 + (a47.refs_.map gSpot.enc : List PV).length) by simp)), trivial⟩, (congrArg (Bk.row 165 3) (show a47.edges_.map gSEdge.enc = ([].map gSEdge.enc) ++ (a47.edges_.map gSEdge.enc) by simp)), (congrArg (Bk.row 71 2) (show a47.decls_.map gSpot.enc = ([].map gSpot.enc) ++ (a47.decls_.map gSpot.enc) by simp)), (congrArg (Bk.row 71 2) (show a47.refs_.map gSpot.enc = ([].map gSpot.enc) ++ (a47.refs_.map gSpot.enc) by simp)), trivial⟩, rfl⟩
                  · refine And.intro ?_ ?_
                    · refine And.intro (show fits _ _ from trivial) ?_
                      refine And.intro ?_ ?_
                      · skip
                        refine Exists.intro ([].map gSEdge.enc) (And.intro (rowX (rowN (show [] = [].map gSEdge.enc by simp) (show 0 = ([].map gSEdge.enc).length by simp)) (fits_map (e := gSEdge.enc) (fun _ => ⟨rfl, rfl⟩) _) (appfitJ (by first | simpa using g750 | (simp at g750 ⊢; omega)) rfl)) ?_)
                        refine And.intro ?_ ?_
                        · skip
                          refine Exists.intro ([].map gSpot.enc) (And.intro (rowX (rowN (show [] = [].map gSpot.enc by simp) (show 0 = ([].map gSpot.enc).length by simp)) (fits_map (e := gSpot.enc) (fun _ => ⟨rfl, rfl⟩) _) (appfitJ (by first | simpa using g727 | (simp at g727 ⊢; omega)) rfl)) ?_)
                          refine And.intro (show fits _ _ from trivial) ?_
                          refine Exists.intro ([].map gSpot.enc) (And.intro (rowX (rowN (show [] = [].map gSpot.enc by simp) (show 0 = ([].map gSpot.enc).length by simp)) (fits_map (e := gSpot.enc) (fun _ => ⟨rfl, rfl⟩) _) (appfitJ (by first | simpa using g724 | (simp at g724 ⊢; omega)) rfl)) ?_)
                          exact ⟨(), h, [(999999, 0), (999999, 1), (999999, 3), (999999, 2), (999999, 4), (999999, 5)], ⟨rfl, rfl, rfl, rfl, rfl, trivial⟩, ⟨⟨rfl, rfl, rfl, rfl, rfl, trivial⟩, ⟨rfl, rfl, rfl, rfl, rfl, trivial⟩, ⟨rfl, rfl, (congrArg (AV.row 3 3 0) (show a47.edges_.length = (0 + (a47.edges_.map gSEdge.enc : List PV).length) by simp)), (congrArg (AV.row 4 2 0) (show a47.decls_.length = (0 + (a47.decls_.map gSpot.enc : List PV).length) by simp)), (congrArg (AV.row 5 2 0) (show a47.refs_.length = (0 + (a47.refs_.map gSpot.enc : List PV).length) by simp)), trivial⟩, (congrArg (Bk.row 165 3) (show a47.edges_.map gSEdge.enc = ([].map gSEdge.enc) ++ (a47.edges_.map gSEdge.enc) by simp)), (congrArg (Bk.row 71 2) (show a47.decls_.map gSpot.enc = ([].map gSpot.enc) ++ (a47.decls_.map gSpot.enc) by simp)), (congrArg (Bk.row 71 2) (show a47.refs_.map gSpot.enc = ([].map gSpot.enc) ++ (a47.refs_.map gSpot.enc) by simp)), trivial⟩, rfl⟩
                        · refine And.intro (show fits _ _ from trivial) ?_
                          refine Exists.intro ([].map gSpot.enc) (And.intro (rowX (rowN (show [] = [].map gSpot.enc by simp) (show 0 = ([].map gSpot.enc).length by simp)) (fits_map (e := gSpot.enc) (fun _ => ⟨rfl, rfl⟩) _) (appfitJ (by first | simpa using g727 | (simp at g727 ⊢; omega)) rfl)) ?_)
                          refine Exists.intro ([].map gSpot.enc) (And.intro (rowX (rowN (show [] = [].map gSpot.enc by simp) (show 0 = ([].map gSpot.enc).length by simp)) (fits_map (e := gSpot.enc) (fun _ => ⟨rfl, rfl⟩) _) (appfitJ (by first | simpa using g724 | (simp at g724 ⊢; omega)) rfl)) ?_)
                          exact ⟨(), h, [(999999, 0), (999999, 1), (999999, 3), (999999, 2), (999999, 4), (999999, 5)], ⟨rfl, rfl, rfl, rfl, rfl, trivial⟩, ⟨⟨rfl, rfl, rfl, rfl, rfl, trivial⟩, ⟨rfl, rfl, rfl, rfl, rfl, trivial⟩, ⟨rfl, rfl, (congrArg (AV.row 3 3 0) (show a47.edges_.length = (0 + (a47.edges_.map gSEdge.enc : List PV).length) by simp)), (congrArg (AV.row 4 2 0) (show a47.decls_.length = (0 + (a47.decls_.map gSpot.enc : List PV).length) by simp)), (congrArg (AV.row 5 2 0) (show a47.refs_.length = (0 + (a47.refs_.map gSpot.enc : List PV).length) by simp)), trivial⟩, (congrArg (Bk.row 165 3) (show a47.edges_.map gSEdge.enc = ([].map gSEdge.enc) ++ (a47.edges_.map gSEdge.enc) by simp)), (congrArg (Bk.row 71 2) (show a47.decls_.map gSpot.enc = ([].map gSpot.enc) ++ (a47.decls_.map gSpot.enc) by simp)), (congrArg (Bk.row 71 2) (show a47.refs_.map gSpot.enc = ([].map gSpot.enc) ++ (a47.refs_.map gSpot.enc) by simp)), trivial⟩, rfl⟩
                      · refine And.intro (show fits _ _ from trivial) ?_
                        refine Exists.intro ([].map gSEdge.enc) (And.intro (rowX (rowN (show [] = [].map gSEdge.enc by simp) (show 0 = ([].map gSEdge.enc).length by simp)) (fits_map (e := gSEdge.enc) (fun _ => ⟨rfl, rfl⟩) _) (appfitJ (by first | simpa using g750 | (simp at g750 ⊢; omega)) rfl)) ?_)
                        refine Exists.intro ([].map gSpot.enc) (And.intro (rowX (rowN (show [] = [].map gSpot.enc by simp) (show 0 = ([].map gSpot.enc).length by simp)) (fits_map (e := gSpot.enc) (fun _ => ⟨rfl, rfl⟩) _) (appfitJ (by first | simpa using g727 | (simp at g727 ⊢; omega)) rfl)) ?_)
                        refine Exists.intro ([].map gSpot.enc) (And.intro (rowX (rowN (show [] = [].map gSpot.enc by simp) (show 0 = ([].map gSpot.enc).length by simp)) (fits_map (e := gSpot.enc) (fun _ => ⟨rfl, rfl⟩) _) (appfitJ (by first | simpa using g724 | (simp at g724 ⊢; omega)) rfl)) ?_)
                        exact ⟨(), h, [(999999, 0), (999999, 1), (999999, 3), (999999, 2), (999999, 4), (999999, 5)], ⟨rfl, rfl, rfl, rfl, rfl, trivial⟩, ⟨⟨rfl, rfl, rfl, rfl, rfl, trivial⟩, ⟨rfl, rfl, rfl, rfl, rfl, trivial⟩, ⟨rfl, rfl, (congrArg (AV.row 3 3 0) (show a47.edges_.length = (0 + (a47.edges_.map gSEdge.enc : List PV).length) by simp)), (congrArg (AV.row 4 2 0) (show a47.decls_.length = (0 + (a47.decls_.map gSpot.enc : List PV).length) by simp)), (congrArg (AV.row 5 2 0) (show a47.refs_.length = (0 + (a47.refs_.map gSpot.enc : List PV).length) by simp)), trivial⟩, (congrArg (Bk.row 165 3) (show a47.edges_.map gSEdge.enc = ([].map gSEdge.enc) ++ (a47.edges_.map gSEdge.enc) by simp)), (congrArg (Bk.row 71 2) (show a47.decls_.map gSpot.enc = ([].map gSpot.enc) ++ (a47.decls_.map gSpot.enc) by simp)), (congrArg (Bk.row 71 2) (show a47.refs_.map gSpot.enc = ([].map gSpot.enc) ++ (a47.refs_.map gSpot.enc) by simp)), trivial⟩, rfl⟩
                    · refine And.intro (show fits _ _ from trivial) ?_
                      refine And.intro ?_ ?_
                      · skip
                        refine Exists.intro ([].map gSEdge.enc) (And.intro (rowX (rowN (show [] = [].map gSEdge.enc by simp) (show 0 = ([].map gSEdge.enc).length by simp)) (fits_map (e := gSEdge.enc) (fun _ => ⟨rfl, rfl⟩) _) (appfitJ (by first | simpa using g750 | (simp at g750 ⊢; omega)) rfl)) ?_)
                        refine And.intro (show fits _ _ from trivial) ?_
                        refine Exists.intro ([].map gSpot.enc) (And.intro (rowX (rowN (show [] = [].map gSpot.enc by simp) (show 0 = ([].map gSpot.enc).length by simp)) (fits_map (e := gSpot.enc) (fun _ => ⟨rfl, rfl⟩) _) (appfitJ (by first | simpa using g727 | (simp at g727 ⊢; omega)) rfl)) ?_)
                        refine Exists.intro ([].map gSpot.enc) (And.intro (rowX (rowN (show [] = [].map gSpot.enc by simp) (show 0 = ([].map gSpot.enc).length by simp)) (fits_map (e := gSpot.enc) (fun _ => ⟨rfl, rfl⟩) _) (appfitJ (by first | simpa using g724 | (simp at g724 ⊢; omega)) rfl)) ?_)
                        exact ⟨(), h, [(999999, 0), (999999, 1), (999999, 3), (999999, 2), (999999, 5), (999999, 4)], ⟨rfl, rfl, rfl, rfl, rfl, trivial⟩, ⟨⟨rfl, rfl, rfl, rfl, rfl, trivial⟩, ⟨rfl, rfl, rfl, rfl, rfl, trivial⟩, ⟨rfl, rfl, (congrArg (AV.row 3 3 0) (show a47.edges_.length = (0 + (a47.edges_.map gSEdge.enc : List PV).length) by simp)), (congrArg (AV.row 4 2 0) (show a47.decls_.length = (0 + (a47.decls_.map gSpot.enc : List PV).length) by simp)), (congrArg (AV.row 5 2 0) (show a47.refs_.length = (0 + (a47.refs_.map gSpot.enc : List PV).length) by simp)), trivial⟩, (congrArg (Bk.row 165 3) (show a47.edges_.map gSEdge.enc = ([].map gSEdge.enc) ++ (a47.edges_.map gSEdge.enc) by simp)), (congrArg (Bk.row 71 2) (show a47.decls_.map gSpot.enc = ([].map gSpot.enc) ++ (a47.decls_.map gSpot.enc) by simp)), (congrArg (Bk.row 71 2) (show a47.refs_.map gSpot.enc = ([].map gSpot.enc) ++ (a47.refs_.map gSpot.enc) by simp)), trivial⟩, rfl⟩
                      · refine And.intro (show fits _ _ from trivial) ?_
                        refine Exists.intro ([].map gSEdge.enc) (And.intro (rowX (rowN (show [] = [].map gSEdge.enc by simp) (show 0 = ([].map gSEdge.enc).length by simp)) (fits_map (e := gSEdge.enc) (fun _ => ⟨rfl, rfl⟩) _) (appfitJ (by first | simpa using g750 | (simp at g750 ⊢; omega)) rfl)) ?_)
                        refine Exists.intro ([].map gSpot.enc) (And.intro (rowX (rowN (show [] = [].map gSpot.enc by simp) (show 0 = ([].map gSpot.enc).length by simp)) (fits_map (e := gSpot.enc) (fun _ => ⟨rfl, rfl⟩) _) (appfitJ (by first | simpa using g727 | (simp at g727 ⊢; omega)) rfl)) ?_)
                        refine Exists.intro ([].map gSpot.enc) (And.intro (rowX (rowN (show [] = [].map gSpot.enc by simp) (show 0 = ([].map gSpot.enc).length by simp)) (fits_map (e := gSpot.enc) (fun _ => ⟨rfl, rfl⟩) _) (appfitJ (by first | simpa using g724 | (simp at g724 ⊢; omega)) rfl)) ?_)
                        exact ⟨(), h, [(999999, 0), (999999, 1), (999999, 3), (999999, 2), (999999, 5), (999999, 4)], ⟨rfl, rfl, rfl, rfl, rfl, trivial⟩, ⟨⟨rfl, rfl, rfl, rfl, rfl, trivial⟩, ⟨rfl, rfl, rfl, rfl, rfl, trivial⟩, ⟨rfl, rfl, (congrArg (AV.row 3 3 0) (show a47.edges_.length = (0 + (a47.edges_.map gSEdge.enc : List PV).length) by simp)), (congrArg (AV.row 4 2 0) (show a47.decls_.length = (0 + (a47.decls_.map gSpot.enc : List PV).length) by simp)), (congrArg (AV.row 5 2 0) (show a47.refs_.length = (0 + (a47.refs_.map gSpot.enc : List PV).length) by simp)), trivial⟩, (congrArg (Bk.row 165 3) (show a47.edges_.map gSEdge.enc = ([].map gSEdge.enc) ++ (a47.edges_.map gSEdge.enc) by simp)), (congrArg (Bk.row 71 2) (show a47.decls_.map gSpot.enc = ([].map gSpot.enc) ++ (a47.decls_.map gSpot.enc) by simp)), (congrArg (Bk.row 71 2) (show a47.refs_.map gSpot.enc = ([].map gSpot.enc) ++ (a47.refs_.map gSpot.enc) by simp)), trivial⟩, rfl⟩
          · refine And.intro ?_ ?_
            · refine And.intro (show fits _ _ from trivial) ?_
              refine And.intro ?_ ?_
              · refine And.intro (show fits _ _ from trivial) ?_
                refine And.intro ?_ ?_
                · skip
                  refine Exists.intro ([].map gSEdge.enc) (And.intro (rowX (rowN (show [] = [].map gSEdge.enc by simp) (show 0 = ([].map gSEdge.enc).length by simp)) (fits_map (e := gSEdge.enc) (fun _ => ⟨rfl, rfl⟩) _) (appfitJ (by first | simpa using g750 | (simp at g750 ⊢; omega)) rfl)) ?_)
                  refine And.intro ?_ ?_
                  · skip
                    refine Exists.intro ([].map gSpot.enc) (And.intro (rowX (rowN (show [] = [].map gSpot.enc by simp) (show 0 = ([].map gSpot.enc).length by simp)) (fits_map (e := gSpot.enc) (fun _ => ⟨rfl, rfl⟩) _) (appfitJ (by first | simpa using g727 | (simp at g727 ⊢; omega)) rfl)) ?_)
                    refine And.intro ?_ ?_
                    · refine And.intro (show fits _ _ from trivial) ?_
                      refine And.intro ?_ ?_
                      · skip
                        refine Exists.intro ([].map gSpot.enc) (And.intro (rowX (rowN (show [] = [].map gSpot.enc by simp) (show 0 = ([].map gSpot.enc).length by simp)) (fits_map (e := gSpot.enc) (fun _ => ⟨rfl, rfl⟩) _) (appfitJ (by first | simpa using g724 | (simp at g724 ⊢; omega)) rfl)) ?_)
                        exact ⟨(), h, [(999999, 0), (999999, 1), (999999, 5), (999999, 3), (999999, 2), (999999, 4)], ⟨rfl, rfl, rfl, rfl, rfl, trivial⟩, ⟨⟨rfl, rfl, rfl, rfl, rfl, trivial⟩, ⟨rfl, rfl, rfl, rfl, rfl, trivial⟩, ⟨rfl, rfl, (congrArg (AV.row 3 3 0) (show a47.edges_.length = (0 + (a47.edges_.map gSEdge.enc : List PV).length) by simp)), (congrArg (AV.row 4 2 0) (show a47.decls_.length = (0 + (a47.decls_.map gSpot.enc : List PV).length) by simp)), (congrArg (AV.row 5 2 0) (show a47.refs_.length = (0 + (a47.refs_.map gSpot.enc : List PV).length) by simp)), trivial⟩, (congrArg (Bk.row 165 3) (show a47.edges_.map gSEdge.enc = ([].map gSEdge.enc) ++ (a47.edges_.map gSEdge.enc) by simp)), (congrArg (Bk.row 71 2) (show a47.decls_.map gSpot.enc = ([].map gSpot.enc) ++ (a47.decls_.map gSpot.enc) by simp)), (congrArg (Bk.row 71 2) (show a47.refs_.map gSpot.enc = ([].map gSpot.enc) ++ (a47.refs_.map gSpot.enc) by simp)), trivial⟩, rfl⟩
                      · skip
                        refine Exists.intro ([].map gSpot.enc) (And.intro (rowX (rowN (show [] = [].map gSpot.enc by simp) (show 0 = ([].map gSpot.enc).length by simp)) (fits_map (e := gSpot.enc) (fun _ => ⟨rfl, rfl⟩) _) (appfitJ (by first | simpa using g724 | (simp at g724 ⊢; omega)) rfl)) ?_)
                        exact ⟨(), h, [(999999, 0), (999999, 1), (999999, 5), (999999, 3), (999999, 2), (999999, 4)], ⟨rfl, rfl, rfl, rfl, rfl, trivial⟩, ⟨⟨rfl, rfl, rfl, rfl, rfl, trivial⟩, ⟨rfl, rfl, rfl, rfl, rfl, trivial⟩, ⟨rfl, rfl, (congrArg (AV.row 3 3 0) (show a47.edges_.length = (0 + (a47.edges_.map gSEdge.enc : List PV).length) by simp)), (congrArg (AV.row 4 2 0) (show a47.decls_.length = (0 + (a47.decls_.map gSpot.enc : List PV).length) by simp)), (congrArg (AV.row 5 2 0) (show a47.refs_.length = (0 + (a47.refs_.map gSpot.enc : List PV).length) by simp)), trivial⟩, (congrArg (Bk.row 165 3) (show a47.edges_.map gSEdge.enc = ([].map gSEdge.enc) ++ (a47.edges_.map gSEdge.enc) by simp)), (congrArg (Bk.row 71 2) (show a47.decls_.map gSpot.enc = ([].map gSpot.enc) ++ (a47.decls_.map gSpot.enc) by simp)), (congrArg (Bk.row 71 2) (show a47.refs_.map gSpot.enc = ([].map gSpot.enc) ++ (a47.refs_.map gSpot.enc) by simp)), trivial⟩, rfl⟩
                    · refine And.intro (show fits _ _ from trivial) ?_
                      refine Exists.intro ([].map gSpot.enc) (And.intro (rowX (rowN (show [] = [].map gSpot.enc by simp) (show 0 = ([].map gSpot.enc).length by simp)) (fits_map (e := gSpot.enc) (fun _ => ⟨rfl, rfl⟩) _) (appfitJ (by first | simpa using g724 | (simp at g724 ⊢; omega)) rfl)) ?_)
                      exact ⟨(), h, [(999999, 0), (999999, 1), (999999, 4), (999999, 3), (999999, 2), (999999, 5)], ⟨rfl, rfl, rfl, rfl, rfl, trivial⟩, ⟨⟨rfl, rfl, rfl, rfl, rfl, trivial⟩, ⟨rfl, rfl, rfl, rfl, rfl, trivial⟩, ⟨rfl, rfl, (congrArg (AV.row 3 3 0) (show a47.edges_.length = (0 + (a47.edges_.map gSEdge.enc : List PV).length) by simp)), (congrArg (AV.row 4 2 0) (show a47.decls_.length = (0 + (a47.decls_.map gSpot.enc : List PV).length) by simp)), (congrArg (AV.row 5 2 0) (show a47.refs_.length = (0 + (a47.refs_.map gSpot.enc : List PV).length) by simp)), trivial⟩, (congrArg (Bk.row 165 3) (show a47.edges_.map gSEdge.enc = ([].map gSEdge.enc) ++ (a47.edges_.map gSEdge.enc) by simp)), (congrArg (Bk.row 71 2) (show a47.decls_.map gSpot.enc = ([].map gSpot.enc) ++ (a47.decls_.map gSpot.enc) by simp)), (congrArg (Bk.row 71 2) (show a47.refs_.map gSpot.enc = ([].map gSpot.enc) ++ (a47.refs_.map gSpot.enc) by simp)), trivial⟩, rfl⟩
                  · refine And.intro ?_ ?_
                    · refine And.intro (show fits _ _ from trivial) ?_
                      refine And.intro ?_ ?_
                      · skip
                        refine Exists.intro ([].map gSpot.enc) (And.intro (rowX (rowN (show [] = [].map gSpot.enc by simp) (show 0 = ([].map gSpot.enc).length by simp)) (fits_map (e := gSpot.enc) (fun _ => ⟨rfl, rfl⟩) _) (appfitJ (by first | simpa using g727 | (simp at g727 ⊢; omega)) rfl)) ?_)
                        refine And.intro ?_ ?_
                        · skip
                          refine Exists.intro ([].map gSpot.enc) (And.intro (rowX (rowN (show [] = [].map gSpot.enc by simp) (show 0 = ([].map gSpot.enc).length by simp)) (fits_map (e := gSpot.enc) (fun _ => ⟨rfl, rfl⟩) _) (appfitJ (by first | simpa using g724 | (simp at g724 ⊢; omega)) rfl)) ?_)
                          exact ⟨(), h, [(999999, 0), (999999, 1), (999999, 5), (999999, 3), (999999, 2), (999999, 4)], ⟨rfl, rfl, rfl, rfl, rfl, trivial⟩, ⟨⟨rfl, rfl, rfl, rfl, rfl, trivial⟩, ⟨rfl, rfl, rfl, rfl, rfl, trivial⟩, ⟨rfl, rfl, (congrArg (AV.row 3 3 0) (show a47.edges_.length = (0 + (a47.edges_.map gSEdge.enc : List PV).length) by simp)), (congrArg (AV.row 4 2 0) (show a47.decls_.length = (0 + (a47.decls_.map gSpot.enc : List PV).length) by simp)), (congrArg (AV.row 5 2 0) (show a47.refs_.length = (0 + (a47.refs_.map gSpot.enc : List PV).length) by simp)), trivial⟩, (congrArg (Bk.row 165 3) (show a47.edges_.map gSEdge.enc = ([].map gSEdge.enc) ++ (a47.edges_.map gSEdge.enc) by simp)), (congrArg (Bk.row 71 2) (show a47.decls_.map gSpot.enc = ([].map gSpot.enc) ++ (a47.decls_.map gSpot.enc) by simp)), (congrArg (Bk.row 71 2) (show a47.refs_.map gSpot.enc = ([].map gSpot.enc) ++ (a47.refs_.map gSpot.enc) by simp)), trivial⟩, rfl⟩
                        · skip
                          refine Exists.intro ([].map gSpot.enc) (And.intro (rowX (rowN (show [] = [].map gSpot.enc by simp) (show 0 = ([].map gSpot.enc).length by simp)) (fits_map (e := gSpot.enc) (fun _ => ⟨rfl, rfl⟩) _) (appfitJ (by first | simpa using g724 | (simp at g724 ⊢; omega)) rfl)) ?_)
                          exact ⟨(), h, [(999999, 0), (999999, 1), (999999, 5), (999999, 3), (999999, 2), (999999, 4)], ⟨rfl, rfl, rfl, rfl, rfl, trivial⟩, ⟨⟨rfl, rfl, rfl, rfl, rfl, trivial⟩, ⟨rfl, rfl, rfl, rfl, rfl, trivial⟩, ⟨rfl, rfl, (congrArg (AV.row 3 3 0) (show a47.edges_.length = (0 + (a47.edges_.map gSEdge.enc : List PV).length) by simp)), (congrArg (AV.row 4 2 0) (show a47.decls_.length = (0 + (a47.decls_.map gSpot.enc : List PV).length) by simp)), (congrArg (AV.row 5 2 0) (show a47.refs_.length = (0 + (a47.refs_.map gSpot.enc : List PV).length) by simp)), trivial⟩, (congrArg (Bk.row 165 3) (show a47.edges_.map gSEdge.enc = ([].map gSEdge.enc) ++ (a47.edges_.map gSEdge.enc) by simp)), (congrArg (Bk.row 71 2) (show a47.decls_.map gSpot.enc = ([].map gSpot.enc) ++ (a47.decls_.map gSpot.enc) by simp)), (congrArg (Bk.row 71 2) (show a47.refs_.map gSpot.enc = ([].map gSpot.enc) ++ (a47.refs_.map gSpot.enc) by simp)), trivial⟩, rfl⟩
                      · skip
                        refine Exists.intro ([].map gSpot.enc) (And.intro (rowX (rowN (show [] = [].map gSpot.enc by simp) (show 0 = ([].map gSpot.enc).length by simp)) (fits_map (e := gSpot.enc) (fun _ => ⟨rfl, rfl⟩) _) (appfitJ (by first | simpa using g727 | (simp at g727 ⊢; omega)) rfl)) ?_)
                        refine Exists.intro ([].map gSpot.enc) (And.intro (rowX (rowN (show [] = [].map gSpot.enc by simp) (show 0 = ([].map gSpot.enc).length by simp)) (fits_map (e := gSpot.enc) (fun _ => ⟨rfl, rfl⟩) _) (appfitJ (by first | simpa using g724 | (simp at g724 ⊢; omega)) rfl)) ?_)
                        exact ⟨(), h, [(999999, 0), (999999, 1), (999999, 5), (999999, 3), (999999, 2), (999999, 4)], ⟨rfl, rfl, rfl, rfl, rfl, trivial⟩, ⟨⟨rfl, rfl, rfl, rfl, rfl, trivial⟩, ⟨rfl, rfl, rfl, rfl, rfl, trivial⟩, ⟨rfl, rfl, (congrArg (AV.row 3 3 0) (show a47.edges_.length = (0 + (a47.edges_.map gSEdge.enc : List PV).length) by simp)), (congrArg (AV.row 4 2 0) (show a47.decls_.length = (0 + (a47.decls_.map gSpot.enc : List PV).length) by simp)), (congrArg (AV.row 5 2 0) (show a47.refs_.length = (0 + (a47.refs_.map gSpot.enc : List PV).length) by simp)), trivial⟩, (congrArg (Bk.row 165 3) (show a47.edges_.map gSEdge.enc = ([].map gSEdge.enc) ++ (a47.edges_.map gSEdge.enc) by simp)), (congrArg (Bk.row 71 2) (show a47.decls_.map gSpot.enc = ([].map gSpot.enc) ++ (a47.decls_.map gSpot.enc) by simp)), (congrArg (Bk.row 71 2) (show a47.refs_.map gSpot.enc = ([].map gSpot.enc) ++ (a47.refs_.map gSpot.enc) by simp)), trivial⟩, rfl⟩
                    · refine And.intro ?_ ?_
                      · skip
                        refine Exists.intro ([].map gSpot.enc) (And.intro (rowX (rowN (show [] = [].map gSpot.enc by simp) (show 0 = ([].map gSpot.enc).length by simp)) (fits_map (e := gSpot.enc) (fun _ => ⟨rfl, rfl⟩) _) (appfitJ (by first | simpa using g727 | (simp at g727 ⊢; omega)) rfl)) ?_)
                        refine And.intro (show fits _ _ from trivial) ?_
                        refine Exists.intro ([].map gSpot.enc) (And.intro (rowX (rowN (show [] = [].map gSpot.enc by simp) (show 0 = ([].map gSpot.enc).length by simp)) (fits_map (e := gSpot.enc) (fun _ => ⟨rfl, rfl⟩) _) (appfitJ (by first | simpa using g724 | (simp at g724 ⊢; omega)) rfl)) ?_)
                        exact ⟨(), h, [(999999, 0), (999999, 1), (999999, 4), (999999, 3), (999999, 2), (999999, 5)], ⟨rfl, rfl, rfl, rfl, rfl, trivial⟩, ⟨⟨rfl, rfl, rfl, rfl, rfl, trivial⟩, ⟨rfl, rfl, rfl, rfl, rfl, trivial⟩, ⟨rfl, rfl, (congrArg (AV.row 3 3 0) (show a47.edges_.length = (0 + (a47.edges_.map gSEdge.enc : List PV).length) by simp)), (congrArg (AV.row 4 2 0) (show a47.decls_.length = (0 + (a47.decls_.map gSpot.enc : List PV).length) by simp)), (congrArg (AV.row 5 2 0) (show a47.refs_.length = (0 + (a47.refs_.map gSpot.enc : List PV).length) by simp)), trivial⟩, (congrArg (Bk.row 165 3) (show a47.edges_.map gSEdge.enc = ([].map gSEdge.enc) ++ (a47.edges_.map gSEdge.enc) by simp)), (congrArg (Bk.row 71 2) (show a47.decls_.map gSpot.enc = ([].map gSpot.enc) ++ (a47.decls_.map gSpot.enc) by simp)), (congrArg (Bk.row 71 2) (show a47.refs_.map gSpot.enc = ([].map gSpot.enc) ++ (a47.refs_.map gSpot.enc) by simp)), trivial⟩, rfl⟩
                      · refine And.intro (show fits _ _ from trivial) ?_
                        refine Exists.intro ([].map gSpot.enc) (And.intro (rowX (rowN (show [] = [].map gSpot.enc by simp) (show 0 = ([].map gSpot.enc).length by simp)) (fits_map (e := gSpot.enc) (fun _ => ⟨rfl, rfl⟩) _) (appfitJ (by first | simpa using g727 | (simp at g727 ⊢; omega)) rfl)) ?_)
                        refine Exists.intro ([].map gSpot.enc) (And.intro (rowX (rowN (show [] = [].map gSpot.enc by simp) (show 0 = ([].map gSpot.enc).length by simp)) (fits_map (e := gSpot.enc) (fun _ => ⟨rfl, rfl⟩) _) (appfitJ (by first | simpa using g724 | (simp at g724 ⊢; omega)) rfl)) ?_)
                        exact ⟨(), h, [(999999, 0), (999999, 1), (999999, 4), (999999, 3), (999999, 2), (999999, 5)], ⟨rfl, rfl, rfl, rfl, rfl, trivial⟩, ⟨⟨rfl, rfl, rfl, rfl, rfl, trivial⟩, ⟨rfl, rfl, rfl, rfl, rfl, trivial⟩, ⟨rfl, rfl, (congrArg (AV.row 3 3 0) (show a47.edges_.length = (0 + (a47.edges_.map gSEdge.enc : List PV).length) by simp)), (congrArg (AV.row 4 2 0) (show a47.decls_.length = (0 + (a47.decls_.map gSpot.enc : List PV).length) by simp)), (congrArg (AV.row 5 2 0) (show a47.refs_.length = (0 + (a47.refs_.map gSpot.enc : List PV).length) by simp)), trivial⟩, (congrArg (Bk.row 165 3) (show a47.edges_.map gSEdge.enc = ([].map gSEdge.enc) ++ (a47.edges_.map gSEdge.enc) by simp)), (congrArg (Bk.row 71 2) (show a47.decls_.map gSpot.enc = ([].map gSpot.enc) ++ (a47.decls_.map gSpot.enc) by simp)), (congrArg (Bk.row 71 2) (show a47.refs_.map gSpot.enc = ([].map gSpot.enc) ++ (a47.refs_.map gSpot.enc) by simp)), trivial⟩, rfl⟩
                · refine And.intro ?_ ?_
                  · refine And.intro (show fits _ _ from trivial) ?_
                    refine And.intro ?_ ?_
                    · skip
                      refine Exists.intro ([].map gSEdge.enc) (And.intro (rowX (rowN (show [] = [].map gSEdge.enc by simp) (show 0 = ([].map gSEdge.enc).length by simp)) (fits_map (e := gSEdge.enc) (fun _ => ⟨rfl, rfl⟩) _) (appfitJ (by first | simpa using g750 | (simp at g750 ⊢; omega)) rfl)) ?_)
                      refine And.intro ?_ ?_
                      · skip
                        refine Exists.intro ([].map gSpot.enc) (And.intro (rowX (rowN (show [] = [].map gSpot.enc by simp) (show 0 = ([].map gSpot.enc).length by simp)) (fits_map (e := gSpot.enc) (fun _ => ⟨rfl, rfl⟩) _) (appfitJ (by first | simpa using g727 | (simp at g727 ⊢; omega)) rfl)) ?_)
                        refine And.intro ?_ ?_
                        · skip
                          refine Exists.intro ([].map gSpot.enc) (And.intro (rowX (rowN (show [] = [].map gSpot.enc by simp) (show 0 = ([].map gSpot.enc).length by simp)) (fits_map (e := gSpot.enc) (fun _ => ⟨rfl, rfl⟩) _) (appfitJ (by first | simpa using g724 | (simp at g724 ⊢; omega)) rfl)) ?_)
                          exact ⟨(), h, [(999999, 0), (999999, 1), (999999, 5), (999999, 3), (999999, 2), (999999, 4)], ⟨rfl, rfl, rfl, rfl, rfl, trivial⟩, ⟨⟨rfl, rfl, rfl, rfl, rfl, trivial⟩, ⟨rfl, rfl, rfl, rfl, rfl, trivial⟩, ⟨rfl, rfl, (congrArg (AV.row 3 3 0) (show a47.edges_.length = (0 + (a47.edges_.map gSEdge.enc : List PV).length) by simp)), (congrArg (AV.row 4 2 0) (show a47.decls_.length = (0 + (a47.decls_.map gSpot.enc : List PV).length) by simp)), (congrArg (AV.row 5 2 0) (show a47.refs_.length = (0 + (a47.refs_.map gSpot.enc : List PV).length) by simp)), trivial⟩, (congrArg (Bk.row 165 3) (show a47.edges_.map gSEdge.enc = ([].map gSEdge.enc) ++ (a47.edges_.map gSEdge.enc) by simp)), (congrArg (Bk.row 71 2) (show a47.decls_.map gSpot.enc = ([].map gSpot.enc) ++ (a47.decls_.map gSpot.enc) by simp)), (congrArg (Bk.row 71 2) (show a47.refs_.map gSpot.enc = ([].map gSpot.enc) ++ (a47.refs_.map gSpot.enc) by simp)), trivial⟩, rfl⟩
                        · skip
                          refine Exists.intro ([].map gSpot.enc) (And.intro (rowX (rowN (show [] = [].map gSpot.enc by simp) (show 0 = ([].map gSpot.enc).length by simp)) (fits_map (e := gSpot.enc) (fun _ => ⟨rfl, rfl⟩) _) (appfitJ (by first | simpa using g724 | (simp at g724 ⊢; omega)) rfl)) ?_)
                          exact ⟨(), h, [(999999, 0), (999999, 1), (999999, 5), (999999, 3), (999999, 2), (999999, 4)], ⟨rfl, rfl, rfl, rfl, rfl, trivial⟩, ⟨⟨rfl, rfl, rfl, rfl, rfl, trivial⟩, ⟨rfl, rfl, rfl, rfl, rfl, trivial⟩, ⟨rfl, rfl, (congrArg (AV.row 3 3 0) (show a47.edges_.length = (0 + (a47.edges_.map gSEdge.enc : List PV).length) by simp)), (congrArg (AV.row 4 2 0) (show a47.decls_.length = (0 + (a47.decls_.map gSpot.enc : List PV).length) by simp)), (congrArg (AV.row 5 2 0) (show a47.refs_.length = (0 + (a47.refs_.map gSpot.enc : List PV).length) by simp)), trivial⟩, (congrArg (Bk.row 165 3) (show a47.edges_.map gSEdge.enc = ([].map gSEdge.enc) ++ (a47.edges_.map gSEdge.enc) by simp)), (congrArg (Bk.row 71 2) (show a47.decls_.map gSpot.enc = ([].map gSpot.enc) ++ (a47.decls_.map gSpot.enc) by simp)), (congrArg (Bk.row 71 2) (show a47.refs_.map gSpot.enc = ([].map gSpot.enc) ++ (a47.refs_.map gSpot.enc) by simp)), trivial⟩, rfl⟩
                      · skip
                        refine Exists.intro ([].map gSpot.enc) (And.intro (rowX (rowN (show [] = [].map gSpot.enc by simp) (show 0 = ([].map gSpot.enc).length by simp)) (fits_map (e := gSpot.enc) (fun _ => ⟨rfl, rfl⟩) _) (appfitJ (by first | simpa using g727 | (simp at g727 ⊢; omega)) rfl)) ?_)
                        refine Exists.intro ([].map gSpot.enc) (And.intro (rowX (rowN (show [] = [].map gSpot.enc by simp) (show 0 = ([].map gSpot.enc).length by simp)) (fits_map (e := gSpot.enc) (fun _ => ⟨rfl, rfl⟩) _) (appfitJ (by first | simpa using g724 | (simp at g724 ⊢; omega)) rfl)) ?_)
                        exact ⟨(), h, [(999999, 0), (999999, 1), (999999, 5), (999999, 3), (999999, 2), (999999, 4)], ⟨rfl, rfl, rfl, rfl, rfl, trivial⟩, ⟨⟨rfl, rfl, rfl, rfl, rfl, trivial⟩, ⟨rfl, rfl, rfl, rfl, rfl, trivial⟩, ⟨rfl, rfl, (congrArg (AV.row 3 3 0) (show a47.edges_.length = (0 + (a47.edges_.map gSEdge.enc : List PV).length) by simp)), (congrArg (AV.row 4 2 0) (show a47.decls_.length = (0 + (a47.decls_.map gSpot.enc : List PV).length) by simp)), (congrArg (AV.row 5 2 0) (show a47.refs_.length = (0 + (a47.refs_.map gSpot.enc : List PV).length) by simp)), trivial⟩, (congrArg (Bk.row 165 3) (show a47.edges_.map gSEdge.enc = ([].map gSEdge.enc) ++ (a47.edges_.map gSEdge.enc) by simp)), (congrArg (Bk.row 71 2) (show a47.decls_.map gSpot.enc = ([].map gSpot.enc) ++ (a47.decls_.map gSpot.enc) by simp)), (congrArg (Bk.row 71 2) (show a47.refs_.map gSpot.enc = ([].map gSpot.enc) ++ (a47.refs_.map gSpot.enc) by simp)), trivial⟩, rfl⟩
                    · skip
                      refine Exists.intro ([].map gSEdge.enc) (And.intro (rowX (rowN (show [] = [].map gSEdge.enc by simp) (show 0 = ([].map gSEdge.enc).length by simp)) (fits_map (e := gSEdge.enc) (fun _ => ⟨rfl, rfl⟩) _) (appfitJ (by first | simpa using g750 | (simp at g750 ⊢; omega)) rfl)) ?_)
                      refine Exists.intro ([].map gSpot.enc) (And.intro (rowX (rowN (show [] = [].map gSpot.enc by simp) (show 0 = ([].map gSpot.enc).length by simp)) (fits_map (e := gSpot.enc) (fun _ => ⟨rfl, rfl⟩) _) (appfitJ (by first | simpa using g727 | (simp at g727 ⊢; omega)) rfl)) ?_)
                      refine Exists.intro ([].map gSpot.enc) (And.intro (rowX (rowN (show [] = [].map gSpot.enc by simp) (show 0 = ([].map gSpot.enc).length by simp)) (fits_map (e := gSpot.enc) (fun _ => ⟨rfl, rfl⟩) _) (appfitJ (by first | simpa using g724 | (simp at g724 ⊢; omega)) rfl)) ?_)
                      exact ⟨(), h, [(999999, 0), (999999, 1), (999999, 5), (999999, 3), (999999, 2), (999999, 4)], ⟨rfl, rfl, rfl, rfl, rfl, trivial⟩, ⟨⟨rfl, rfl, rfl, rfl, rfl, trivial⟩, ⟨rfl, rfl, rfl, rfl, rfl, trivial⟩, ⟨rfl, rfl, (congrArg (AV.row 3 3 0) (show a47.edges_.length = (0 + (a47.edges_.map gSEdge.enc : List PV).length) by simp)), (congrArg (AV.row 4 2 0) (show a47.decls_.length = (0 + (a47.decls_.map gSpot.enc : List PV).length) by simp)), (congrArg (AV.row 5 2 0) (show a47.refs_.length = (0 + (a47.refs_.map gSpot.enc : List PV).length) by simp)), trivial⟩, (congrArg (Bk.row 165 3) (show a47.edges_.map gSEdge.enc = ([].map gSEdge.enc) ++ (a47.edges_.map gSEdge.enc) by simp)), (congrArg (Bk.row 71 2) (show a47.decls_.map gSpot.enc = ([].map gSpot.enc) ++ (a47.decls_.map gSpot.enc) by simp)), (congrArg (Bk.row 71 2) (show a47.refs_.map gSpot.enc = ([].map gSpot.enc) ++ (a47.refs_.map gSpot.enc) by simp)), trivial⟩, rfl⟩
                  · refine And.intro ?_ ?_
                    · skip
                      refine Exists.intro ([].map gSEdge.enc) (And.intro (rowX (rowN (show [] = [].map gSEdge.enc by simp) (show 0 = ([].map gSEdge.enc).length by simp)) (fits_map (e := gSEdge.enc) (fun _ => ⟨rfl, rfl⟩) _) (appfitJ (by first | simpa using g750 | (simp at g750 ⊢; omega)) rfl)) ?_)
                      refine And.intro ?_ ?_
                      · skip
                        refine Exists.intro ([].map gSpot.enc) (And.intro (rowX (rowN (show [] = [].map gSpot.enc by simp) (show 0 = ([].map gSpot.enc).length by simp)) (fits_map (e := gSpot.enc) (fun _ => ⟨rfl, rfl⟩) _) (appfitJ (by first | simpa using g727 | (simp at g727 ⊢; omega)) rfl)) ?_)
                        refine And.intro (show fits _ _ from trivial) ?_
                        refine Exists.intro ([].map gSpot.enc) (And.intro (rowX (rowN (show [] = [].map gSpot.enc by simp) (show 0 = ([].map gSpot.enc).length by simp)) (fits_map (e := gSpot.enc) (fun _ => ⟨rfl, rfl⟩) _) (appfitJ (by first | simpa using g724 | (simp at g724 ⊢; omega)) rfl)) ?_)
                        exact ⟨(), h, [(999999, 0), (999999, 1), (999999, 4), (999999, 3), (999999, 2), (999999, 5)], ⟨rfl, rfl, rfl, rfl, rfl, trivial⟩, ⟨⟨rfl, rfl, rfl, rfl, rfl, trivial⟩, ⟨rfl, rfl, rfl, rfl, rfl, trivial⟩, ⟨rfl, rfl, (congrArg (AV.row 3 3 0) (show a47.edges_.length = (0 + (a47.edges_.map gSEdge.enc : List PV).length) by simp)), (congrArg (AV.row 4 2 0) (show a47.decls_.length = (0 + (a47.decls_.map gSpot.enc : List PV).length) by simp)), (congrArg (AV.row 5 2 0) (show a47.refs_.length = (0 + (a47.refs_.map gSpot.enc : List PV).length) by simp)), trivial⟩, (congrArg (Bk.row 165 3) (show a47.edges_.map gSEdge.enc = ([].map gSEdge.enc) ++ (a47.edges_.map gSEdge.enc) by simp)), (congrArg (Bk.row 71 2) (show a47.decls_.map gSpot.enc = ([].map gSpot.enc) ++ (a47.decls_.map gSpot.enc) by simp)), (congrArg (Bk.row 71 2) (show a47.refs_.map gSpot.enc = ([].map gSpot.enc) ++ (a47.refs_.map gSpot.enc) by simp)), trivial⟩, rfl⟩
                      · refine And.intro (show fits _ _ from trivial) ?_
                        refine Exists.intro ([].map gSpot.enc) (And.intro (rowX (rowN (show [] = [].map gSpot.enc by simp) (show 0 = ([].map gSpot.enc).length by simp)) (fits_map (e := gSpot.enc) (fun _ => ⟨rfl, rfl⟩) _) (appfitJ (by first | simpa using g727 | (simp at g727 ⊢; omega)) rfl)) ?_)
                        refine Exists.intro ([].map gSpot.enc) (And.intro (rowX (rowN (show [] = [].map gSpot.enc by simp) (show 0 = ([].map gSpot.enc).length by simp)) (fits_map (e := gSpot.enc) (fun _ => ⟨rfl, rfl⟩) _) (appfitJ (by first | simpa using g724 | (simp at g724 ⊢; omega)) rfl)) ?_)
                        exact ⟨(), h, [(999999, 0), (999999, 1), (999999, 4), (999999, 3), (999999, 2), (999999, 5)], ⟨rfl, rfl, rfl, rfl, rfl, trivial⟩, ⟨⟨rfl, rfl, rfl, rfl, rfl, trivial⟩, ⟨rfl, rfl, rfl, rfl, rfl, trivial⟩, ⟨rfl, rfl, (congrArg (AV.row 3 3 0) (show a47.edges_.length = (0 + (a47.edges_.map gSEdge.enc : List PV).length) by simp)), (congrArg (AV.row 4 2 0) (show a47.decls_.length = (0 + (a47.decls_.map gSpot.enc : List PV).length) by simp)), (congrArg (AV.row 5 2 0) (show a47.refs_.length = (0 + (a47.refs_.map gSpot.enc : List PV).length) by simp)), trivial⟩, (congrArg (Bk.row 165 3) (show a47.edges_.map gSEdge.enc = ([].map gSEdge.enc) ++ (a47.edges_.map gSEdge.enc) by simp)), (congrArg (Bk.row 71 2) (show a47.decls_.map gSpot.enc = ([].map gSpot.enc) ++ (a47.decls_.map gSpot.enc) by simp)), (congrArg (Bk.row 71 2) (show a47.refs_.map gSpot.enc = ([].map gSpot.enc) ++ (a47.refs_.map gSpot.enc) by simp)), trivial⟩, rfl⟩
                    · refine And.intro (show fits _ _ from trivial) ?_
                      refine Exists.intro ([].map gSEdge.enc) (And.intro (rowX (rowN (show [] = [].map gSEdge.enc by simp) (show 0 = ([].map gSEdge.enc).length by simp)) (fits_map (e := gSEdge.enc) (fun _ => ⟨rfl, rfl⟩) _) (appfitJ (by first | simpa using g750 | (simp at g750 ⊢; omega)) rfl)) ?_)
                      refine Exists.intro ([].map gSpot.enc) (And.intro (rowX (rowN (show [] = [].map gSpot.enc by simp) (show 0 = ([].map gSpot.enc).length by simp)) (fits_map (e := gSpot.enc) (fun _ => ⟨rfl, rfl⟩) _) (appfitJ (by first | simpa using g727 | (simp at g727 ⊢; omega)) rfl)) ?_)
                      refine Exists.intro ([].map gSpot.enc) (And.intro (rowX (rowN (show [] = [].map gSpot.enc by simp) (show 0 = ([].map gSpot.enc).length by simp)) (fits_map (e := gSpot.enc) (fun _ => ⟨rfl, rfl⟩) _) (appfitJ (by first | simpa using g724 | (simp at g724 ⊢; omega)) rfl)) ?_)
                      exact ⟨(), h, [(999999, 0), (999999, 1), (999999, 4), (999999, 3), (999999, 2), (999999, 5)], ⟨rfl, rfl, rfl, rfl, rfl, trivial⟩, ⟨⟨rfl, rfl, rfl, rfl, rfl, trivial⟩, ⟨rfl, rfl, rfl, rfl, rfl, trivial⟩, ⟨rfl, rfl, (congrArg (AV.row 3 3 0) (show a47.edges_.length = (0 + (a47.edges_.map gSEdge.enc : List PV).length) by simp)), (congrArg (AV.row 4 2 0) (show a47.decls_.length = (0 + (a47.decls_.map gSpot.enc : List PV).length) by simp)), (congrArg (AV.row 5 2 0) (show a47.refs_.length = (0 + (a47.refs_.map gSpot.enc : List PV).length) by simp)), trivial⟩, (congrArg (Bk.row 165 3) (show a47.edges_.map gSEdge.enc = ([].map gSEdge.enc) ++ (a47.edges_.map gSEdge.enc) by simp)), (congrArg (Bk.row 71 2) (show a47.decls_.map gSpot.enc = ([].map gSpot.enc) ++ (a47.decls_.map gSpot.enc) by simp)), (congrArg (Bk.row 71 2) (show a47.refs_.map gSpot.enc = ([].map gSpot.enc) ++ (a47.refs_.map gSpot.enc) by simp)), trivial⟩, rfl⟩
              · refine And.intro ?_ ?_
                · refine And.intro (show fits _ _ from trivial) ?_
                  refine And.intro ?_ ?_
                  · refine And.intro (show fits _ _ from trivial) ?_
                    refine And.intro ?_ ?_
                    · skip
                      refine Exists.intro ([].map gSEdge.enc) (And.intro (rowX (rowN (show [] = [].map gSEdge.enc by simp) (show 0 = ([].map gSEdge.enc).length by simp)) (fits_map (e := gSEdge.enc) (fun _ => ⟨rfl, rfl⟩) _) (appfitJ (by first | simpa using g750 | (simp at g750 ⊢; omega)) rfl)) ?_)
                      refine And.intro ?_ ?_
                      · skip
                        refine Exists.intro ([].map gSpot.enc) (And.intro (rowX (rowN (show [] = [].map gSpot.enc by simp) (show 0 = ([].map gSpot.enc).length by simp)) (fits_map (e := gSpot.enc) (fun _ => ⟨rfl, rfl⟩) _) (appfitJ (by first | simpa using g727 | (simp at g727 ⊢; omega)) rfl)) ?_)
                        refine And.intro ?_ ?_
                        · skip
                          refine Exists.intro ([].map gSpot.enc) (And.intro (rowX (rowN (show [] = [].map gSpot.enc by simp) (show 0 = ([].map gSpot.enc).length by simp)) (fits_map (e := gSpot.enc) (fun _ => ⟨rfl, rfl⟩) _) (appfitJ (by first | simpa using g724 | (simp at g724 ⊢; omega)) rfl)) ?_)
                          exact ⟨(), h, [(999999, 0), (999999, 1), (999999, 5), (999999, 4), (999999, 2), (999999, 3)], ⟨rfl, rfl, rfl, rfl, rfl, trivial⟩, ⟨⟨rfl, rfl, rfl, rfl, rfl, trivial⟩, ⟨rfl, rfl, rfl, rfl, rfl, trivial⟩, ⟨rfl, rfl, (congrArg (AV.row 3 3 0) (show a47.edges_.length = (0 + (a47.edges_.map gSEdge.enc : List PV).length) by simp)), (congrArg (AV.row 4 2 0) (show a47.decls_.length = (0 + (a47.decls_.map gSpot.enc : List PV).length) by simp)), (congrArg (AV.row 5 2 0) (show a47.refs_.length = (0 + (a47.refs_.map gSpot.enc : List PV).length) by simp)), trivial⟩, (congrArg (Bk.row 165 3) (show a47.edges_.map gSEdge.enc = ([].map gSEdge.enc) ++ (a47.edges_.map gSEdge.enc) by simp)), (congrArg (Bk.row 71 2) (show a47.decls_.map gSpot.enc = ([].map gSpot.enc) ++ (a47.decls_.map gSpot.enc) by simp)), (congrArg (Bk.row 71 2) (show a47.refs_.map gSpot.enc = ([].map gSpot.enc) ++ (a47.refs_.map gSpot.enc) by simp)), trivial⟩, rfl⟩
                        · skip
                          refine Exists.intro ([].map gSpot.enc) (And.intro (rowX (rowN (show [] = [].map gSpot.enc by simp) (show 0 = ([].map gSpot.enc).length by simp)) (fits_map (e := gSpot.enc) (fun _ => ⟨rfl, rfl⟩) _) (appfitJ (by first | simpa using g724 | (simp at g724 ⊢; omega)) rfl)) ?_)
                          exact ⟨(), h, [(999999, 0), (999999, 1), (999999, 5), (999999, 4), (999999, 2), (999999, 3)], ⟨rfl, rfl, rfl, rfl, rfl, trivial⟩, ⟨⟨rfl, rfl, rfl, rfl, rfl, trivial⟩, ⟨rfl, rfl, rfl, rfl, rfl, trivial⟩, ⟨rfl, rfl, (congrArg (AV.row 3 3 0) (show a47.edges_.length = (0 + (a47.edges_.map gSEdge.enc : List PV).length) by simp)), (congrArg (AV.row 4 2 0) (show a47.decls_.length = (0 + (a47.decls_.map gSpot.enc : List PV).length) by simp)), (congrArg (AV.row 5 2 0) (show a47.refs_.length = (0 + (a47.refs_.map gSpot.enc : List PV).length) by simp)), trivial⟩, (congrArg (Bk.row 165 3) (show a47.edges_.map gSEdge.enc = ([].map gSEdge.enc) ++ (a47.edges_.map gSEdge.enc) by simp)), (congrArg (Bk.row 71 2) (show a47.decls_.map gSpot.enc = ([].map gSpot.enc) ++ (a47.decls_.map gSpot.enc) by simp)), (congrArg (Bk.row 71 2) (show a47.refs_.map gSpot.enc = ([].map gSpot.enc) ++ (a47.refs_.map gSpot.enc) by simp)), trivial⟩, rfl⟩
                      · skip
                        refine Exists.intro ([].map gSpot.enc) (And.intro (rowX (rowN (show [] = [].map gSpot.enc by simp) (show 0 = ([].map gSpot.enc).length by simp)) (fits_map (e := gSpot.enc) (fun _ => ⟨rfl, rfl⟩) _) (appfitJ (by first | simpa using g727 | (simp at g727 ⊢; omega)) rfl)) ?_)
                        refine Exists.intro ([].map gSpot.enc) (And.intro (rowX (rowN (show [] = [].map gSpot.enc by simp) (show 0 = ([].map gSpot.enc).length by simp)) (fits_map (e := gSpot.enc) (fun _ => ⟨rfl, rfl⟩) _) (appfitJ (by first | simpa using g724 | (simp at g724 ⊢; omega)) rfl)) ?_)
                        exact ⟨(), h, [(999999, 0), (999999, 1), (999999, 5), (999999, 4), (999999, 2), (999999, 3)], ⟨rfl, rfl, rfl, rfl, rfl, trivial⟩, ⟨⟨rfl, rfl, rfl, rfl, rfl, trivial⟩, ⟨rfl, rfl, rfl, rfl, rfl, trivial⟩, ⟨rfl, rfl, (congrArg (AV.row 3 3 0) (show a47.edges_.length = (0 + (a47.edges_.map gSEdge.enc : List PV).length) by simp)), (congrArg (AV.row 4 2 0) (show a47.decls_.length = (0 + (a47.decls_.map gSpot.enc : List PV).length) by simp)), (congrArg (AV.row 5 2 0) (show a47.refs_.length = (0 + (a47.refs_.map gSpot.enc : List PV).length) by simp)), trivial⟩, (congrArg (Bk.row 165 3) (show a47.edges_.map gSEdge.enc = ([].map gSEdge.enc) ++ (a47.edges_.map gSEdge.enc) by simp)), (congrArg (Bk.row 71 2) (show a47.decls_.map gSpot.enc = ([].map gSpot.enc) ++ (a47.decls_.map gSpot.enc) by simp)), (congrArg (Bk.row 71 2) (show a47.refs_.map gSpot.enc = ([].map gSpot.enc) ++ (a47.refs_.map gSpot.enc) by simp)), trivial⟩, rfl⟩
                    · skip
                      refine Exists.intro ([].map gSEdge.enc) (And.intro (rowX (rowN (show [] = [].map gSEdge.enc by simp) (show 0 = ([].map gSEdge.enc).length by simp)) (fits_map (e := gSEdge.enc) (fun _ => ⟨rfl, rfl⟩) _) (appfitJ (by first | simpa using g750 | (simp at g750 ⊢; omega)) rfl)) ?_)
                      refine Exists.intro ([].map gSpot.enc) (And.intro (rowX (rowN (show [] = [].map gSpot.enc by simp) (show 0 = ([].map gSpot.enc).length by simp)) (fits_map (e := gSpot.enc) (fun _ => ⟨rfl, rfl⟩) _) (appfitJ (by first | simpa using g727 | (simp at g727 ⊢; omega)) rfl)) ?_)
                      refine Exists.intro ([].map gSpot.enc) (And.intro (rowX (rowN (show [] = [].map gSpot.enc by simp) (show 0 = ([].map gSpot.enc).length by simp)) (fits_map (e := gSpot.enc) (fun _ => ⟨rfl, rfl⟩) _) (appfitJ (by first | simpa using g724 | (simp at g724 ⊢; omega)) rfl)) ?_)
                      exact ⟨(), h, [(999999, 0), (999999, 1), (999999, 5), (999999, 4), (999999, 2), (999999, 3)], ⟨rfl, rfl, rfl, rfl, rfl, trivial⟩, ⟨⟨rfl, rfl, rfl, rfl, rfl, trivial⟩, ⟨rfl, rfl, rfl, rfl, rfl, trivial⟩, ⟨rfl, rfl, (congrArg (AV.row 3 3 0) (show a47.edges_.length = (0 + (a47.edges_.map gSEdge.enc : List PV).length) by simp)), (congrArg (AV.row 4 2 0) (show a47.decls_.length = (0 + (a47.decls_.map gSpot.enc : List PV).length) by simp)), (congrArg (AV.row 5 2 0) (show a47.refs_.length = (0 + (a47.refs_.map gSpot.enc : List PV).length) by simp)), trivial⟩, (congrArg (Bk.row 165 3) (show a47.edges_.map gSEdge.enc = ([].map gSEdge.enc) ++ (a47.edges_.map gSEdge.enc) by simp)), (congrArg (Bk.row 71 2) (show a47.decls_.map gSpot.enc = ([].map gSpot.enc) ++ (a47.decls_.map gSpot.enc) by simp)), (congrArg (Bk.row 71 2) (show a47.refs_.map gSpot.enc = ([].map gSpot.enc) ++ (a47.refs_.map gSpot.enc) by simp)), trivial⟩, rfl⟩
                  · refine And.intro (show fits _ _ from trivial) ?_
                    refine Exists.intro ([].map gSEdge.enc) (And.intro (rowX (rowN (show [] = [].map gSEdge.enc by simp) (show 0 = ([].map gSEdge.enc).length by simp)) (fits_map (e := gSEdge.enc) (fun _ => ⟨rfl, rfl⟩) _) (appfitJ (by first | simpa using g750 | (simp at g750 ⊢; omega)) rfl)) ?_)
                    refine Exists.intro ([].map gSpot.enc) (And.intro (rowX (rowN (show [] = [].map gSpot.enc by simp) (show 0 = ([].map gSpot.enc).length by simp)) (fits_map (e := gSpot.enc) (fun _ => ⟨rfl, rfl⟩) _) (appfitJ (by first | simpa using g727 | (simp at g727 ⊢; omega)) rfl)) ?_)
                    refine Exists.intro ([].map gSpot.enc) (And.intro (rowX (rowN (show [] = [].map gSpot.enc by simp) (show 0 = ([].map gSpot.enc).length by simp)) (fits_map (e := gSpot.enc) (fun _ => ⟨rfl, rfl⟩) _) (appfitJ (by first | simpa using g724 | (simp at g724 ⊢; omega)) rfl)) ?_)
                    exact ⟨(), h, [(999999, 0), (999999, 1), (999999, 4), (999999, 5), (999999, 2), (999999, 3)], ⟨rfl, rfl, rfl, rfl, rfl, trivial⟩, ⟨⟨rfl, rfl, rfl, rfl, rfl, trivial⟩, ⟨rfl, rfl, rfl, rfl, rfl, trivial⟩, ⟨rfl, rfl, (congrArg (AV.row 3 3 0) (show a47.edges_.length = (0 + (a47.edges_.map gSEdge.enc : List PV).length) by simp)), (congrArg (AV.row 4 2 0) (show a47.decls_.length = (0 + (a47.decls_.map gSpot.enc : List PV).length) by simp)), (congrArg (AV.row 5 2 0) (show a47.refs_.length = (0 + (a47.refs_.map gSpot.enc : List PV).length) by simp)), trivial⟩, (congrArg (Bk.row 165 3) (show a47.edges_.map gSEdge.enc = ([].map gSEdge.enc) ++ (a47.edges_.map gSEdge.enc) by simp)), (congrArg (Bk.row 71 2) (show a47.decls_.map gSpot.enc = ([].map gSpot.enc) ++ (a47.decls_.map gSpot.enc) by simp)), (congrArg (Bk.row 71 2) (show a47.refs_.map gSpot.enc = ([].map gSpot.enc) ++ (a47.refs_.map gSpot.enc) by simp)), trivial⟩, rfl⟩
                · refine And.intro ?_ ?_
                  · refine And.intro (show fits _ _ from trivial) ?_
                    refine And.intro ?_ ?_
                    · skip
                      refine Exists.intro ([].map gSEdge.enc) (And.intro (rowX (rowN (show [] = [].map gSEdge.enc by simp) (show 0 = ([].map gSEdge.enc).length by simp)) (fits_map (e := gSEdge.enc) (fun _ => ⟨rfl, rfl⟩) _) (appfitJ (by first | simpa using g750 | (simp at g750 ⊢; omega)) rfl)) ?_)
                      refine And.intro ?_ ?_
                      · skip
                        refine Exists.intro ([].map gSpot.enc) (And.intro (rowX (rowN (show [] = [].map gSpot.enc by simp) (show 0 = ([].map gSpot.enc).length by simp)) (fits_map (e := gSpot.enc) (fun _ => ⟨rfl, rfl⟩) _) (appfitJ (by first | simpa using g727 | (simp at g727 ⊢; omega)) rfl)) ?_)
                        refine And.intro (show fits _ _ from trivial) ?_
                        refine Exists.intro ([].map gSpot.enc) (And.intro (rowX (rowN (show [] = [].map gSpot.enc by simp) (show 0 = ([].map gSpot.enc).length by simp)) (fits_map (e := gSpot.enc) (fun _ => ⟨rfl, rfl⟩) _) (appfitJ (by first | simpa using g724 | (simp at g724 ⊢; omega)) rfl)) ?_)
                        exact ⟨(), h, [(999999, 0), (999999, 1), (999999, 3), (999999, 4), (999999, 2), (999999, 5)], ⟨rfl, rfl, rfl, rfl, rfl, trivial⟩, ⟨⟨rfl, rfl, rfl, rfl, rfl, trivial⟩, ⟨rfl, rfl, rfl, rfl, rfl, trivial⟩, ⟨rfl, rfl, (congrArg (AV.row 3 3 0) (show a47.edges_.length = (0 + (a47.edges_.map gSEdge.enc : List PV).length) by simp)), (congrArg (AV.row 4 2 0) (show a47.decls_.length = (0 + (a47.decls_.map gSpot.enc : List PV).length) by simp)), (congrArg (AV.row 5 2 0) (show a47.refs_.length = (0 + (a47.refs_.map gSpot.enc : List PV).length) by simp)), trivial⟩, (congrArg (Bk.row 165 3) (show a47.edges_.map gSEdge.enc = ([].map gSEdge.enc) ++ (a47.edges_.map gSEdge.enc) by simp)), (congrArg (Bk.row 71 2) (show a47.decls_.map gSpot.enc = ([].map gSpot.enc) ++ (a47.decls_.map gSpot.enc) by simp)), (congrArg (Bk.row 71 2) (show a47.refs_.map gSpot.enc = ([].map gSpot.enc) ++ (a47.refs_.map gSpot.enc) by simp)), trivial⟩, rfl⟩
                      · refine And.intro (show fits _ _ from trivial) ?_
                        refine Exists.intro ([].map gSpot.enc) (And.intro (rowX (rowN (show [] = [].map gSpot.enc by simp) (show 0 = ([].map gSpot.enc).length by simp)) (fits_map (e := gSpot.enc) (fun _ => ⟨rfl, rfl⟩) _) (appfitJ (by first | simpa using g727 | (simp at g727 ⊢; omega)) rfl)) ?_)
                        refine Exists.intro ([].map gSpot.enc) (And.intro (rowX (rowN (show [] = [].map gSpot.enc by simp) (show 0 = ([].map gSpot.enc).length by simp)) (fits_map (e := gSpot.enc) (fun _ => ⟨rfl, rfl⟩) _) (appfitJ (by first | simpa using g724 | (simp at g724 ⊢; omega)) rfl)) ?_)
                        exact ⟨(), h, [(999999, 0), (999999, 1), (999999, 3), (999999, 4), (999999, 2), (999999, 5)], ⟨rfl, rfl, rfl, rfl, rfl, trivial⟩, ⟨⟨rfl, rfl, rfl, rfl, rfl, trivial⟩, ⟨rfl, rfl, rfl, rfl, rfl, trivial⟩, ⟨rfl, rfl, (congrArg (AV.row 3 3 0) (show a47.edges_.length = (0 + (a47.edges_.map gSEdge.enc : List PV).length) by simp)), (congrArg (AV.row 4 2 0) (show a47.decls_.length = (0 + (a47.decls_.map gSpot.enc : List PV).length) by simp)), (congrArg (AV.row 5 2 0) (show a47.refs_.length = (0 + (a47.refs_.map gSpot.enc : List PV).length) by simp)), trivial⟩, (congrArg (Bk.row 165 3) (show a47.edges_.map gSEdge.enc = ([].map gSEdge.enc) ++ (a47.edges_.map gSEdge.enc) by simp)), (congrArg (Bk.row 71 2) (show a47.decls_.map gSpot.enc = ([].map gSpot.enc) ++ (a47.decls_.map gSpot.enc) by simp)), (congrArg (Bk.row 71 2) (show a47.refs_.map gSpot.enc = ([].map gSpot.enc) ++ (a47.refs_.map gSpot.enc) by simp)), trivial⟩, rfl⟩
                    · refine And.intro (show fits _ _ from trivial) ?_
                      refine Exists.intro ([].map gSEdge.enc) (And.intro (rowX (rowN (show [] = [].map gSEdge.enc by simp) (show 0 = ([].map gSEdge.enc).length by simp)) (fits_map (e := gSEdge.enc) (fun _ => ⟨rfl, rfl⟩) _) (appfitJ (by first | simpa using g750 | (simp at g750 ⊢; omega)) rfl)) ?_)
                      refine Exists.intro ([].map gSpot.enc) (And.intro (rowX (rowN (show [] = [].map gSpot.enc by simp) (show 0 = ([].map gSpot.enc).length by simp)) (fits_map (e := gSpot.enc) (fun _ => ⟨rfl, rfl⟩) _) (appfitJ (by first | simpa using g727 | (simp at g727 ⊢; omega)) rfl)) ?_)
                      refine Exists.intro ([].map gSpot.enc) (And.intro (rowX (rowN (show [] = [].map gSpot.enc by simp) (show 0 = ([].map gSpot.enc).length by simp)) (fits_map (e := gSpot.enc) (fun _ => ⟨rfl, rfl⟩) _) (appfitJ (by first | simpa using g724 | (simp at g724 ⊢; omega)) rfl)) ?_)
                      exact ⟨(), h, [(999999, 0), (999999, 1), (999999, 3), (999999, 4), (999999, 2), (999999, 5)], ⟨rfl, rfl, rfl, rfl, rfl, trivial⟩, ⟨⟨rfl, rfl, rfl, rfl, rfl, trivial⟩, ⟨rfl, rfl, rfl, rfl, rfl, trivial⟩, ⟨rfl, rfl, (congrArg (AV.row 3 3 0) (show a47.edges_.length = (0 + (a47.edges_.map gSEdge.enc : List PV).length) by simp)), (congrArg (AV.row 4 2 0) (show a47.decls_.length = (0 + (a47.decls_.map gSpot.enc : List PV).length) by simp)), (congrArg (AV.row 5 2 0) (show a47.refs_.length = (0 + (a47.refs_.map gSpot.enc : List PV).length) by simp)), trivial⟩, (congrArg (Bk.row 165 3) (show a47.edges_.map gSEdge.enc = ([].map gSEdge.enc) ++ (a47.edges_.map gSEdge.enc) by simp)), (congrArg (Bk.row 71 2) (show a47.decls_.map gSpot.enc = ([].map gSpot.enc) ++ (a47.decls_.map gSpot.enc) by simp)), (congrArg (Bk.row 71 2) (show a47.refs_.map gSpot.enc = ([].map gSpot.enc) ++ (a47.refs_.map gSpot.enc) by simp)), trivial⟩, rfl⟩
                  · refine And.intro (show fits _ _ from trivial) ?_
                    refine And.intro (show fits _ _ from trivial) ?_
                    refine Exists.intro ([].map gSEdge.enc) (And.intro (rowX (rowN (show [] = [].map gSEdge.enc by simp) (show 0 = ([].map gSEdge.enc).length by simp)) (fits_map (e := gSEdge.enc) (fun _ => ⟨rfl, rfl⟩) _) (appfitJ (by first | simpa using g750 | (simp at g750 ⊢; omega)) rfl)) ?_)
                    refine Exists.intro ([].map gSpot.enc) (And.intro (rowX (rowN (show [] = [].map gSpot.enc by simp) (show 0 = ([].map gSpot.enc).length by simp)) (fits_map (e := gSpot.enc) (fun _ => ⟨rfl, rfl⟩) _) (appfitJ (by first | simpa using g727 | (simp at g727 ⊢; omega)) rfl)) ?_)
                    refine Exists.intro ([].map gSpot.enc) (And.intro (rowX (rowN (show [] = [].map gSpot.enc by simp) (show 0 = ([].map gSpot.enc).length by simp)) (fits_map (e := gSpot.enc) (fun _ => ⟨rfl, rfl⟩) _) (appfitJ (by first | simpa using g724 | (simp at g724 ⊢; omega)) rfl)) ?_)
                    exact ⟨(), h, [(999999, 0), (999999, 1), (999999, 3), (999999, 5), (999999, 2), (999999, 4)], ⟨rfl, rfl, rfl, rfl, rfl, trivial⟩, ⟨⟨rfl, rfl, rfl, rfl, rfl, trivial⟩, ⟨rfl, rfl, rfl, rfl, rfl, trivial⟩, ⟨rfl, rfl, (congrArg (AV.row 3 3 0) (show a47.edges_.length = (0 + (a47.edges_.map gSEdge.enc : List PV).length) by simp)), (congrArg (AV.row 4 2 0) (show a47.decls_.length = (0 + (a47.decls_.map gSpot.enc : List PV).length) by simp)), (congrArg (AV.row 5 2 0) (show a47.refs_.length = (0 + (a47.refs_.map gSpot.enc : List PV).length) by simp)), trivial⟩, (congrArg (Bk.row 165 3) (show a47.edges_.map gSEdge.enc = ([].map gSEdge.enc) ++ (a47.edges_.map gSEdge.enc) by simp)), (congrArg (Bk.row 71 2) (show a47.decls_.map gSpot.enc = ([].map gSpot.enc) ++ (a47.decls_.map gSpot.enc) by simp)), (congrArg (Bk.row 71 2) (show a47.refs_.map gSpot.enc = ([].map gSpot.enc) ++ (a47.refs_.map gSpot.enc) by simp)), trivial⟩, rfl⟩
            · refine And.intro ?_ ?_
              · refine And.intro (show fits _ _ from trivial) ?_
                refine And.intro ?_ ?_
                · refine And.intro (show fits _ _ from trivial) ?_
                  refine And.intro ?_ ?_
                  · skip
                    refine Exists.intro ([].map gSEdge.enc) (And.intro (rowX (rowN (show [] = [].map gSEdge.enc by simp) (show 0 = ([].map gSEdge.enc).length by simp)) (fits_map (e := gSEdge.enc) (fun _ => ⟨rfl, rfl⟩) _) (appfitJ (by first | simpa using g750 | (simp at g750 ⊢; omega)) rfl)) ?_)
                    refine And.intro ?_ ?_
                    · refine And.intro (show fits _ _ from trivial) ?_
                      refine And.intro ?_ ?_
                      · skip
                        refine Exists.intro ([].map gSpot.enc) (And.intro (rowX (rowN (show [] = [].map gSpot.enc by simp) (show 0 = ([].map gSpot.enc).length by simp)) (fits_map (e := gSpot.enc) (fun _ => ⟨rfl, rfl⟩) _) (appfitJ (by first | simpa using g727 | (simp at g727 ⊢; omega)) rfl)) ?_)
                        refine And.intro ?_ ?_
                        · skip
                          refine Exists.intro ([].map gSpot.enc) (And.intro (rowX (rowN (show [] = [].map gSpot.enc by simp) (show 0 = ([].map gSpot.enc).length by simp)) (fits_map (e := gSpot.enc) (fun _ => ⟨rfl, rfl⟩) _) (appfitJ (by first | simpa using g724 | (simp at g724 ⊢; omega)) rfl)) ?_)
                          exact ⟨(), h, [(999999, 0), (999999, 1), (999999, 5), (999999, 3), (999999, 4), (999999, 2)], ⟨rfl, rfl, rfl, rfl, rfl, trivial⟩, ⟨⟨rfl, rfl, rfl, rfl, rfl, trivial⟩, ⟨rfl, rfl, rfl, rfl, rfl, trivial⟩, ⟨rfl, rfl, (congrArg (AV.row 3 3 0) (show a47.edges_.length = (0 + (a47.edges_.map gSEdge.enc : List PV).length) by simp)), (congrArg (AV.row 4 2 0) (show a47.decls_.length = (0 + (a47.decls_.map gSpot.enc : List PV).length) by simp)), (congrArg (AV.row 5 2 0) (show a47.refs_.length = (0 + (a47.refs_.map gSpot.enc : List PV).length) by simp)), trivial⟩, (congrArg (Bk.row 165 3) (show a47.edges_.map gSEdge.enc = ([].map gSEdge.enc) ++ (a47.edges_.map gSEdge.enc) by simp)), (congrArg (Bk.row 71 2) (show a47.decls_.map gSpot.enc = ([].map gSpot.enc) ++ (a47.decls_.map gSpot.enc) by simp)), (congrArg (Bk.row 71 2) (show a47.refs_.map gSpot.enc = ([].map gSpot.enc) ++ (a47.refs_.map gSpot.enc) by simp)), trivial⟩, rfl⟩
                        · skip
                          refine Exists.intro ([].map gSpot.enc) (And.intro (rowX (rowN (show [] = [].map gSpot.enc by simp) (show 0 = ([].map gSpot.enc).length by simp)) (fits_map (e := gSpot.enc) (fun _ => ⟨rfl, rfl⟩) _) (appfitJ (by first | simpa using g724 | (simp at g724 ⊢; omega)) rfl)) ?_)
                          exact ⟨(), h, [(999999, 0), (999999, 1), (999999, 5), (999999, 3), (999999, 4), (999999, 2)], ⟨rfl, rfl, rfl, rfl, rfl, trivial⟩, ⟨⟨rfl, rfl, rfl, rfl, rfl, trivial⟩, ⟨rfl, rfl, rfl, rfl, rfl, trivial⟩, ⟨rfl, rfl, (congrArg (AV.row 3 3 0) (show a47.edges_.length = (0 + (a47.edges_.map gSEdge.enc : List PV).length) by simp)), (congrArg (AV.row 4 2 0) (show a47.decls_.length = (0 + (a47.decls_.map gSpot.enc : List PV).length) by simp)), (congrArg (AV.row 5 2 0) (show a47.refs_.length = (0 + (a47.refs_.map gSpot.enc : List PV).length) by simp)), trivial⟩, (congrArg (Bk.row 165 3) (show a47.edges_.map gSEdge.enc = ([].map gSEdge.enc) ++ (a47.edges_.map gSEdge.enc) by simp)), (congrArg (Bk.row 71 2) (show a47.decls_.map gSpot.enc = ([].map gSpot.enc) ++ (a47.decls_.map gSpot.enc) by simp)), (congrArg (Bk.row 71 2) (show a47.refs_.map gSpot.enc = ([].map gSpot.enc) ++ (a47.refs_.map gSpot.enc) by simp)), trivial⟩, rfl⟩
                      · skip
                        refine Exists.intro ([].map gSpot.enc) (And.intro (rowX (rowN (show [] = [].map gSpot.enc by simp) (show 0 = ([].map gSpot.enc).length by simp)) (fits_map (e := gSpot.enc) (fun _ => ⟨rfl, rfl⟩) _) (appfitJ (by first | simpa using g727 | (simp at g727 ⊢; omega)) rfl)) ?_)
                        refine Exists.intro ([].map gSpot.enc) (And.intro (rowX (rowN (show [] = [].map gSpot.enc by simp) (show 0 = ([].map gSpot.enc).length by simp)) (fits_map (e := gSpot.enc) (fun _ => ⟨rfl, rfl⟩) _) (appfitJ (by first | simpa using g724 | (simp at g724 ⊢; omega)) rfl)) ?_)
                        exact ⟨(), h, [(999999, 0), (999999, 1), (999999, 5), (999999, 3), (999999, 4), (999999, 2)], ⟨rfl, rfl, rfl, rfl, rfl, trivial⟩, ⟨⟨rfl, rfl, rfl, rfl, rfl, trivial⟩, ⟨rfl, rfl, rfl, rfl, rfl, trivial⟩, ⟨rfl, rfl, (congrArg (AV.row 3 3 0) (show a47.edges_.length = (0 + (a47.edges_.map gSEdge.enc : List PV).length) by simp)), (congrArg (AV.row 4 2 0) (show a47.decls_.length = (0 + (a47.decls_.map gSpot.enc : List PV).length) by simp)), (congrArg (AV.row 5 2 0) (show a47.refs_.length = (0 + (a47.refs_.map gSpot.enc : List PV).length) by simp)), trivial⟩, (congrArg (Bk.row 165 3) (show a47.edges_.map gSEdge.enc = ([].map gSEdge.enc) ++ (a47.edges_.map gSEdge.enc) by simp)), (congrArg (Bk.row 71 2) (show a47.decls_.map gSpot.enc = ([].map gSpot.enc) ++ (a47.decls_.map gSpot.enc) by simp)), (congrArg (Bk.row 71 2) (show a47.refs_.map gSpot.enc = ([].map gSpot.enc) ++ (a47.refs_.map gSpot.enc) by simp)), trivial⟩, rfl⟩
                    · refine And.intro (show fits _ _ from trivial) ?_
                      refine Exists.intro ([].map gSpot.enc) (And.intro (rowX (rowN (show [] = [].map gSpot.enc by simp) (show 0 = ([].map gSpot.enc).length by simp)) (fits_map (e := gSpot.enc) (fun _ => ⟨rfl, rfl⟩) _) (appfitJ (by first | simpa using g727 | (simp at g727 ⊢; omega)) rfl)) ?_)
                      refine Exists.intro ([].map gSpot.enc) (And.intro (rowX (rowN (show [] = [].map gSpot.enc by simp) (show 0 = ([].map gSpot.enc).length by simp)) (fits_map (e := gSpot.enc) (fun _ => ⟨rfl, rfl⟩) _) (appfitJ (by first | simpa using g724 | (simp at g724 ⊢; omega)) rfl)) ?_)
                      exact ⟨(), h, [(999999, 0), (999999, 1), (999999, 4), (999999, 3), (999999, 5), (999999, 2)], ⟨rfl, rfl, rfl, rfl, rfl, trivial⟩, ⟨⟨rfl, rfl, rfl, rfl, rfl, trivial⟩, ⟨rfl, rfl, rfl, rfl, rfl, trivial⟩, ⟨rfl, rfl, (congrArg (AV.row 3 3 0) (show a47.edges_.length = (0 + (a47.edges_.map gSEdge.enc : List PV).length) by simp)), (congrArg (AV.row 4 2 0) (show a47.decls_.length = (0 + (a47.decls_.map gSpot.enc : List PV).length) by simp)), (congrArg (AV.row 5 2 0) (show a47.refs_.length = (0 + (a47.refs_.map gSpot.enc : List PV).length) by simp)), trivial⟩, (congrArg (Bk.row 165 3) (show a47.edges_.map gSEdge.enc = ([].map gSEdge.enc) ++ (a47.edges_.map gSEdge.enc) by simp)), (congrArg (Bk.row 71 2) (show a47.decls_.map gSpot.enc = ([].map gSpot.enc) ++ (a47.decls_.map gSpot.enc) by simp)), (congrArg (Bk.row 71 2) (show a47.refs_.map gSpot.enc = ([].map gSpot.enc) ++ (a47.refs_.map gSpot.enc) by simp)), trivial⟩, rfl⟩
                  · refine And.intro ?_ ?_
                    · refine And.intro (show fits _ _ from trivial) ?_
                      refine And.intro ?_ ?_
                      · skip
                        refine Exists.intro ([].map gSEdge.enc) (And.intro (rowX (rowN (show [] = [].map gSEdge.enc by simp) (show 0 = ([].map gSEdge.enc).length by simp)) (fits_map (e := gSEdge.enc) (fun _ => ⟨rfl, rfl⟩) _) (appfitJ (by first | simpa using g750 | (simp at g750 ⊢; omega)) rfl)) ?_)
                        refine And.intro ?_ ?_
                        · skip
                          refine Exists.intro ([].map gSpot.enc) (And.intro (rowX (rowN (show [] = [].map gSpot.enc by simp) (show 0 = ([].map gSpot.enc).length by simp)) (fits_map (e := gSpot.enc) (fun _ => ⟨rfl, rfl⟩) _) (appfitJ (by first | simpa using g727 | (simp at g727 ⊢; omega)) rfl)) ?_)
                          refine And.intro ?_ ?_
                          · skip
                            refine Exists.intro ([].map gSpot.enc) (And.intro (rowX (rowN (show [] = [].map gSpot.enc by simp) (show 0 = ([].map gSpot.enc).length by simp)) (fits_map (e := gSpot.enc) (fun _ => ⟨rfl, rfl⟩) _) (appfitJ (by first | simpa using g724 | (simp at g724 ⊢; omega)) rfl)) ?_)
                            exact ⟨(), h, [(999999, 0), (999999, 1), (999999, 5), (999999, 3), (999999, 4), (999999, 2)], ⟨rfl, rfl, rfl, rfl, rfl, trivial⟩, ⟨⟨rfl, rfl, rfl, rfl, rfl, trivial⟩, ⟨rfl, rfl, rfl, rfl, rfl, trivial⟩, ⟨rfl, rfl, (congrArg (AV.row 3 3 0) (show a47.edges_.length = (0 + (a47.edges_.map gSEdge.enc : List PV).length) by simp)), (congrArg (AV.row 4 2 0) (show a47.decls_.length = (0 + (a47.decls_.map gSpot.enc : List PV).length) by simp)), (congrArg (AV.row 5 2 0) (show a47.refs_.length = (0 + (a47.refs_.map gSpot.enc : List PV).length) by simp)), trivial⟩, (congrArg (Bk.row 165 3) (show a47.edges_.map gSEdge.enc = ([].map gSEdge.enc) ++ (a47.edges_.map gSEdge.enc) by simp)), (congrArg (Bk.row 71 2) (show a47.decls_.map gSpot.enc = ([].map gSpot.enc) ++ (a47.decls_.map gSpot.enc) by simp)), (congrArg (Bk.row 71 2) (show a47.refs_.map gSpot.enc = ([].map gSpot.enc) ++ (a47.refs_.map gSpot.enc) by simp)), trivial⟩, rfl⟩
                          · skip
                            refine Exists.intro ([].map gSpot.enc) (And.intro (rowX (rowN (show [] = [].map gSpot.enc by simp) (show 0 = ([].map gSpot.enc).length by simp)) (fits_map (e := gSpot.enc) (fun _ => ⟨rfl, rfl⟩) _) (appfitJ (by first | simpa using g724 | (simp at g724 ⊢; omega)) rfl)) ?_)
                            exact ⟨(), h, [(999999, 0), (999999, 1), (999999, 5), (999999, 3), (999999, 4), (999999, 2)], ⟨rfl, rfl, rfl, rfl, rfl, trivial⟩, ⟨⟨rfl, rfl, rfl, rfl, rfl, trivial⟩, ⟨rfl, rfl, rfl, rfl, rfl, trivial⟩, ⟨rfl, rfl, (congrArg (AV.row 3 3 0) (show a47.edges_.length = (0 + (a47.edges_.map gSEdge.enc : List PV).length) by simp)), (congrArg (AV.row 4 2 0) (show a47.decls_.length = (0 + (a47.decls_.map gSpot.enc : List PV).length) by simp)), (congrArg (AV.row 5 2 0) (show a47.refs_.length = (0 + (a47.refs_.map gSpot.enc : List PV).length) by simp)), trivial⟩, (congrArg (Bk.row 165 3) (show a47.edges_.map gSEdge.enc = ([].map gSEdge.enc) ++ (a47.edges_.map gSEdge.enc) by simp)), (congrArg (Bk.row 71 2) (show a47.decls_.map gSpot.enc = ([].map gSpot.enc) ++ (a47.decls_.map gSpot.enc) by simp)), (congrArg (Bk.row 71 2) (show a47.refs_.map gSpot.enc = ([].map gSpot.enc) ++ (a47.refs_.map gSpot.enc) by simp)), trivial⟩, rfl⟩
                        · skip
                          refine Exists.intro ([].map gSpot.enc) (And.intro (rowX (rowN (show [] = [].map gSpot.enc by simp) (show 0 = ([].map gSpot.enc).length by simp)) (fits_map (e := gSpot.enc) (fun _ => ⟨rfl, rfl⟩) _) (appfitJ (by first | simpa using g727 | (simp at g727 ⊢; omega)) rfl)) ?_)
                          refine Exists.intro ([].map gSpot.enc) (And.intro (rowX (rowN (show [] = [].map gSpot.enc by simp) (show 0 = ([].map gSpot.enc).length by simp)) (fits_map (e := gSpot.enc) (fun _ => ⟨rfl, rfl⟩) _) (appfitJ (by first | simpa using g724 | (simp at g724 ⊢; omega)) rfl)) ?_)
                          exact ⟨(), h, [(999999, 0), (999999, 1), (999999, 5), (999999, 3), (999999, 4), (999999, 2)], ⟨rfl, rfl, rfl, rfl, rfl, trivial⟩, ⟨⟨rfl, rfl, rfl, rfl, rfl, trivial⟩, ⟨rfl, rfl, rfl, rfl, rfl, trivial⟩, ⟨rfl, rfl, (congrArg (AV.row 3 3 0) (show a47.edges_.length = (0 + (a47.edges_.map gSEdge.enc : List PV).length) by simp)), (congrArg (AV.row 4 2 0) (show a47.decls_.length = (0 + (a47.decls_.map gSpot.enc : List PV).length) by simp)), (congrArg (AV.row 5 2 0) (show a47.refs_.length = (0 + (a47.refs_.map gSpot.enc : List PV).length) by simp)), trivial⟩, (congrArg (Bk.row 165 3) (show a47.edges_.map gSEdge.enc = ([].map gSEdge.enc) ++ (a47.edges_.map gSEdge.enc) by simp)), (congrArg (Bk.row 71 2) (show a47.decls_.map gSpot.enc = ([].map gSpot.enc) ++ (a47.decls_.map gSpot.enc) by simp)), (congrArg (Bk.row 71 2) (show a47.refs_.map gSpot.enc = ([].map gSpot.enc) ++ (a47.refs_.map gSpot.enc) by simp)), trivial⟩, rfl⟩
                      · skip
                        refine Exists.intro ([].map gSEdge.enc) (And.intro (rowX (rowN (show [] = [].map gSEdge.enc by simp) (show 0 = ([].map gSEdge.enc).length by simp)) (fits_map (e := gSEdge.enc) (fun _ => ⟨rfl, rfl⟩) _) (appfitJ (by first | simpa using g750 | (simp at g750 ⊢; omega)) rfl)) ?_)
                        refine Exists.intro ([].map gSpot.enc) (And.intro (rowX (rowN (show [] = [].map gSpot.enc by simp) (show 0 = ([].map gSpot.enc).length by simp)) (fits_map (e := gSpot.enc) (fun _ => ⟨rfl, rfl⟩) _) (appfitJ (by first | simpa using g727 | (simp at g727 ⊢; omega)) rfl)) ?_)
                        refine Exists.intro ([].map gSpot.enc) (And.intro (rowX (rowN (show [] = [].map gSpot.enc by simp) (show 0 = ([].map gSpot.enc).length by simp)) (fits_map (e := gSpot.enc) (fun _ => ⟨rfl, rfl⟩) _) (appfitJ (by first | simpa using g724 | (simp at g724 ⊢; omega)) rfl)) ?_)
                        exact ⟨(), h, [(999999, 0), (999999, 1), (999999, 5), (999999, 3), (999999, 4), (999999, 2)], ⟨rfl, rfl, rfl, rfl, rfl, trivial⟩, ⟨⟨rfl, rfl, rfl, rfl, rfl, trivial⟩, ⟨rfl, rfl, rfl, rfl, rfl, trivial⟩, ⟨rfl, rfl, (congrArg (AV.row 3 3 0) (show a47.edges_.length = (0 + (a47.edges_.map gSEdge.enc : List PV).length) by simp)), (congrArg (AV.row 4 2 0) (show a47.decls_.length = (0 + (a47.decls_.map gSpot.enc : List PV).length) by simp)), (congrArg (AV.row 5 2 0) (show a47.refs_.length = (0 + (a47.refs_.map gSpot.enc : List PV).length) by simp)), trivial⟩, (congrArg (Bk.row 165 3) (show a47.edges_.map gSEdge.enc = ([].map gSEdge.enc) ++ (a47.edges_.map gSEdge.enc) by simp)), (congrArg (Bk.row 71 2) (show a47.decls_.map gSpot.enc = ([].map gSpot.enc) ++ (a47.decls_.map gSpot.enc) by simp)), (congrArg (Bk.row 71 2) (show a47.refs_.map gSpot.enc = ([].map gSpot.enc) ++ (a47.refs_.map gSpot.enc) by simp)), trivial⟩, rfl⟩
                    · refine And.intro ?_ ?_
                      · skip
                        refine Exists.intro ([].map gSEdge.enc) (And.intro (rowX (rowN (show [] = [].map gSEdge.enc by simp) (show 0 = ([].map gSEdge.enc).length by simp)) (fits_map (e := gSEdge.enc) (fun _ => ⟨rfl, rfl⟩) _) (appfitJ (by first | simpa using g750 | (simp at g750 ⊢; omega)) rfl)) ?_)
                        refine And.intro (show fits _ _ from trivial) ?_
                        refine Exists.intro ([].map gSpot.enc) (And.intro (rowX (rowN (show [] = [].map gSpot.enc by simp) (show 0 = ([].map gSpot.enc).length by simp)) (fits_map (e := gSpot.enc) (fun _ => ⟨rfl, rfl⟩) _) (appfitJ (by first | simpa using g727 | (simp at g727 ⊢; omega)) rfl)) ?_)
                        refine Exists.intro ([].map gSpot.enc) (And.intro (rowX (rowN (show [] = [].map gSpot.enc by simp) (show 0 = ([].map gSpot.enc).length by simp)) (fits_map (e := gSpot.enc) (fun _ => ⟨rfl, rfl⟩) _) (appfitJ (by first | simpa using g724 | (simp at g724 ⊢; omega)) rfl)) ?_)
                        exact ⟨(), h, [(999999, 0), (999999, 1), (999999, 4), (999999, 3), (999999, 5), (999999, 2)], ⟨rfl, rfl, rfl, rfl, rfl, trivial⟩, ⟨⟨rfl, rfl, rfl, rfl, rfl, trivial⟩, ⟨rfl, rfl, rfl, rfl, rfl, trivial⟩, ⟨rfl, rfl, (congrArg (AV.row 3 3 0) (show a47.edges_.length = (0 + (a47.edges_.map gSEdge.enc : List PV).length) by simp)), (congrArg (AV.row 4 2 0) (show a47.decls_.length = (0 + (a47.decls_.map gSpot.enc : List PV).length) by simp)), (congrArg (AV.row 5 2 0) (show a47.refs_.length = (0 + (a47.refs_.map gSpot.enc : List PV).length) by simp)), trivial⟩, (congrArg (Bk.row 165 3) (show a47.edges_.map gSEdge.enc = ([].map gSEdge.enc) ++ (a47.edges_.map gSEdge.enc) by simp)), (congrArg (Bk.row 71 2) (show a47.decls_.map gSpot.enc = ([].map gSpot.enc) ++ (a47.decls_.map gSpot.enc) by simp)), (congrArg (Bk.row 71 2) (show a47.refs_.map gSpot.enc = ([].map gSpot.enc) ++ (a47.refs_.map gSpot.enc) by simp)), trivial⟩, rfl⟩
                      · refine And.intro (show fits _ _ from trivial) ?_
                        refine Exists.intro ([].map gSEdge.enc) (And.intro (rowX (rowN (show [] = [].map gSEdge.enc by simp) (show 0 = ([].map gSEdge.enc).length by simp)) (fits_map (e := gSEdge.enc) (fun _ => ⟨rfl, rfl⟩) _) (appfitJ (by first | simpa using g750 | (simp at g750 ⊢; omega)) rfl)) ?_)
                        refine Exists.intro ([].map gSpot.enc) (And.intro (rowX (rowN (show [] = [].map gSpot.enc by simp) (show 0 = ([].map gSpot.enc).length by simp)) (fits_map (e := gSpot.enc) (fun _ => ⟨rfl, rfl⟩) _) (appfitJ (by first | simpa using g727 | (simp at g727 ⊢; omega)) rfl)) ?_)
                        refine Exists.intro ([].map gSpot.enc) (And.intro (rowX (rowN (show [] = [].map gSpot.enc by simp) (show 0 = ([].map gSpot.enc).length by simp)) (fits_map (e := gSpot.enc) (fun _ => ⟨rfl, rfl⟩) _) (appfitJ (by first | simpa using g724 | (simp at g724 ⊢; omega)) rfl)) ?_)
                        exact ⟨(), h, [(999999, 0), (999999, 1), (999999, 4), (999999, 3), (999999, 5), (999999, 2)], ⟨rfl, rfl, rfl, rfl, rfl, trivial⟩, ⟨⟨rfl, rfl, rfl, rfl, rfl, trivial⟩, ⟨rfl, rfl, rfl, rfl, rfl, trivial⟩, ⟨rfl, rfl, (congrArg (AV.row 3 3 0) (show a47.edges_.length = (0 + (a47.edges_.map gSEdge.enc : List PV).length) by simp)), (congrArg (AV.row 4 2 0) (show a47.decls_.length = (0 + (a47.decls_.map gSpot.enc : List PV).length) by simp)), (congrArg (AV.row 5 2 0) (show a47.refs_.length = (0 + (a47.refs_.map gSpot.enc : List PV).length) by simp)), trivial⟩, (congrArg (Bk.row 165 3) (show a47.edges_.map gSEdge.enc = ([].map gSEdge.enc) ++ (a47.edges_.map gSEdge.enc) by simp)), (congrArg (Bk.row 71 2) (show a47.decls_.map gSpot.enc = ([].map gSpot.enc) ++ (a47.decls_.map gSpot.enc) by simp)), (congrArg (Bk.row 71 2) (show a47.refs_.map gSpot.enc = ([].map gSpot.enc) ++ (a47.refs_.map gSpot.enc) by simp)), trivial⟩, rfl⟩
                · refine And.intro ?_ ?_
                  · refine And.intro (show fits _ _ from trivial) ?_
                    refine And.intro ?_ ?_
                    · refine And.intro (show fits _ _ from trivial) ?_
                      refine And.intro ?_ ?_
                      · skip
                        refine Exists.intro ([].map gSEdge.enc) (And.intro (rowX (rowN (show [] = [].map gSEdge.enc by simp) (show 0 = ([].map gSEdge.enc).length by simp)) (fits_map (e := gSEdge.enc) (fun _ => ⟨rfl, rfl⟩) _) (appfitJ (by first | simpa using g750 | (simp at g750 ⊢; omega)) rfl)) ?_)
                        refine And.intro ?_ ?_
                        · skip
                          refine Exists.intro ([].map gSpot.enc) (And.intro (rowX (rowN (show [] = [].map gSpot.enc by simp) (show 0 = ([].map gSpot.enc).length by simp)) (fits_map (e := gSpot.enc) (fun _ => ⟨rfl, rfl⟩) _) (appfitJ (by first | simpa using g727 | (simp at g727 ⊢; omega)) rfl)) ?_)
                          refine And.intro ?_ ?_
                          · skip
                            refine Exists.intro ([].map gSpot.enc) (And.intro (rowX (rowN (show [] = [].map gSpot.enc by simp) (show 0 = ([].map gSpot.enc).length by simp)) (fits_map (e := gSpot.enc) (fun _ => ⟨rfl, rfl⟩) _) (appfitJ (by first | simpa using g724 | (simp at g724 ⊢; omega)) rfl)) ?_)
                            exact ⟨(), h, [(999999, 0), (999999, 1), (999999, 5), (999999, 4), (999999, 3), (999999, 2)], ⟨rfl, rfl, rfl, rfl, rfl, trivial⟩, ⟨⟨rfl, rfl, rfl, rfl, rfl, trivial⟩, ⟨rfl, rfl, rfl, rfl, rfl, trivial⟩, ⟨rfl, rfl, (congrArg (AV.row 3 3 0) (show a47.edges_.length = (0 + (a47.edges_.map gSEdge.enc : List PV).length) by simp)), (congrArg (AV.row 4 2 0) (show a47.decls_.length = (0 + (a47.decls_.map gSpot.enc : List PV).length) by simp)), (congrArg (AV.row 5 2 0) (show a47.refs_.length = (0 + (a47.refs_.map gSpot.enc : List PV).length) by simp)), trivial⟩, (congrArg (Bk.row 165 3) (show a47.edges_.map gSEdge.enc = ([].map gSEdge.enc) ++ (a47.edges_.map gSEdge.enc) by simp)), (congrArg (Bk.row 71 2) (show a47.decls_.map gSpot.enc = ([].map gSpot.enc) ++ (a47.decls_.map gSpot.enc) by simp)), (congrArg (Bk.row 71 2) (show a47.refs_.map gSpot.enc = ([].map gSpot.enc) ++ (a47.refs_.map gSpot.enc) by simp)), trivial⟩, rfl⟩
                          · skip
                            refine Exists.intro ([].map gSpot.enc) (And.intro (rowX (rowN (show [] = [].map gSpot.enc by simp) (show 0 = ([].map gSpot.enc).length by simp)) (fits_map (e := gSpot.enc) (fun _ => ⟨rfl, rfl⟩) _) (appfitJ (by first | simpa using g724 | (simp at g724 ⊢; omega)) rfl)) ?_)
                            exact ⟨(), h, [(999999, 0), (999999, 1), (999999, 5), (999999, 4), (999999, 3), (999999, 2)], ⟨rfl, rfl, rfl, rfl, rfl, trivial⟩, ⟨⟨rfl, rfl, rfl, rfl, rfl, trivial⟩, ⟨rfl, rfl, rfl, rfl, rfl, trivial⟩, ⟨rfl, rfl, (congrArg (AV.row 3 3 0) (show a47.edges_.length = (0 + (a47.edges_.map gSEdge.enc : List PV).length) by simp)), (congrArg (AV.row 4 2 0) (show a47.decls_.length = (0 + (a47.decls_.map gSpot.enc : List PV).length) by simp)), (congrArg (AV.row 5 2 0) (show a47.refs_.length = (0 + (a47.refs_.map gSpot.enc : List PV).length) by simp)), trivial⟩, (congrArg (Bk.row 165 3) (show a47.edges_.map gSEdge.enc = ([].map gSEdge.enc) ++ (a47.edges_.map gSEdge.enc) by simp)), (congrArg (Bk.row 71 2) (show a47.decls_.map gSpot.enc = ([].map gSpot.enc) ++ (a47.decls_.map gSpot.enc) by simp)), (congrArg (Bk.row 71 2) (show a47.refs_.map gSpot.enc = ([].map gSpot.enc) ++ (a47.refs_.map gSpot.enc) by simp)), trivial⟩, rfl⟩
                        · skip
                          refine Exists.intro ([].map gSpot.enc) (And.intro (rowX (rowN (show [] = [].map gSpot.enc by simp) (show 0 = ([].map gSpot.enc).length by simp)) (fits_map (e := gSpot.enc) (fun _ => ⟨rfl, rfl⟩) _) (appfitJ (by first | simpa using g727 | (simp at g727 ⊢; omega)) rfl)) ?_)
                          refine Exists.intro ([].map gSpot.enc) (And.intro (rowX (rowN (show [] = [].map gSpot.enc by simp) (show 0 = ([].map gSpot.enc).length by simp)) (fits_map (e := gSpot.enc) (fun _ => ⟨rfl, rfl⟩) _) (appfitJ (by first | simpa using g724 | (simp at g724 ⊢; omega)) rfl)) ?_)
                          exact ⟨(), h, [(999999, 0), (999999, 1), (999999, 5), (999999, 4), (999999, 3), (999999, 2)], ⟨rfl, rfl, rfl, rfl, rfl, trivial⟩, ⟨⟨rfl, rfl, rfl, rfl, rfl, trivial⟩, ⟨rfl, rfl, rfl, rfl, rfl, trivial⟩, ⟨rfl, rfl, (congrArg (AV.row 3 3 0) (show a47.edges_.length = (0 + (a47.edges_.map gSEdge.enc : List PV).length) by simp)), (congrArg (AV.row 4 2 0) (show a47.decls_.length = (0 + (a47.decls_.map gSpot.enc : List PV).length) by simp)), (congrArg (AV.row 5 2 0) (show a47.refs_.length = (0 + (a47.refs_.map gSpot.enc : List PV).length) by simp)), trivial⟩, (congrArg (Bk.row 165 3) (show a47.edges_.map gSEdge.enc = ([].map gSEdge.enc) ++ (a47.edges_.map gSEdge.enc) by simp)), (congrArg (Bk.row 71 2) (show a47.decls_.map gSpot.enc = ([].map gSpot.enc) ++ (a47.decls_.map gSpot.enc) by simp)), (congrArg (Bk.row 71 2) (show a47.refs_.map gSpot.enc = ([].map gSpot.enc) ++ (a47.refs_.map gSpot.enc) by simp)), trivial⟩, rfl⟩
                      · skip
                        refine Exists.intro ([].map gSEdge.enc) (And.intro (rowX (rowN (show [] = [].map gSEdge.enc by simp) (show 0 = ([].map gSEdge.enc).length by simp)) (fits_map (e := gSEdge.enc) (fun _ => ⟨rfl, rfl⟩) _) (appfitJ (by first | simpa using g750 | (simp at g750 ⊢; omega)) rfl)) ?_)
                        refine Exists.intro ([].map gSpot.enc) (And.intro (rowX (rowN (show [] = [].map gSpot.enc by simp) (show 0 = ([].map gSpot.enc).length by simp)) (fits_map (e := gSpot.enc) (fun _ => ⟨rfl, rfl⟩) _) (appfitJ (by first | simpa using g727 | (simp at g727 ⊢; omega)) rfl)) ?_)
                        refine Exists.intro ([].map gSpot.enc) (And.intro (rowX (rowN (show [] = [].map gSpot.enc by simp) (show 0 = ([].map gSpot.enc).length by simp)) (fits_map (e := gSpot.enc) (fun _ => ⟨rfl, rfl⟩) _) (appfitJ (by first | simpa using g724 | (simp at g724 ⊢; omega)) rfl)) ?_)
                        exact ⟨(), h, [(999999, 0), (999999, 1), (999999, 5), (999999, 4), (999999, 3), (999999, 2)], ⟨rfl, rfl, rfl, rfl, rfl, trivial⟩, ⟨⟨rfl, rfl, rfl, rfl, rfl, trivial⟩, ⟨rfl, rfl, rfl, rfl, rfl, trivial⟩, ⟨rfl, rfl, (congrArg (AV.row 3 3 0) (show a47.edges_.length = (0 + (a47.edges_.map gSEdge.enc : List PV).length) by simp)), (congrArg (AV.row 4 2 0) (show a47.decls_.length = (0 + (a47.decls_.map gSpot.enc : List PV).length) by simp)), (congrArg (AV.row 5 2 0) (show a47.refs_.length = (0 + (a47.refs_.map gSpot.enc : List PV).length) by simp)), trivial⟩, (congrArg (Bk.row 165 3) (show a47.edges_.map gSEdge.enc = ([].map gSEdge.enc) ++ (a47.edges_.map gSEdge.enc) by simp)), (congrArg (Bk.row 71 2) (show a47.decls_.map gSpot.enc = ([].map gSpot.enc) ++ (a47.decls_.map gSpot.enc) by simp)), (congrArg (Bk.row 71 2) (show a47.refs_.map gSpot.enc = ([].map gSpot.enc) ++ (a47.refs_.map gSpot.enc) by simp)), trivial⟩, rfl⟩
                    · refine And.intro (show fits _ _ from trivial) ?_
                      refine Exists.intro ([].map gSEdge.enc) (And.intro (rowX (rowN (show [] = [].map gSEdge.enc by simp) (show 0 = ([].map gSEdge.enc).length by simp)) (fits_map (e := gSEdge.enc) (fun _ => ⟨rfl, rfl⟩) _) (appfitJ (by first | simpa using g750 | (simp at g750 ⊢; omega)) rfl)) ?_)
                      refine Exists.intro ([].map gSpot.enc) (And.intro (rowX (rowN (show [] = [].map gSpot.enc by simp) (show 0 = ([].map gSpot.enc).length by simp)) (fits_map (e := gSpot.enc) (fun _ => ⟨rfl, rfl⟩) _) (appfitJ (by first | simpa using g727 | (simp at g727 ⊢; omega)) rfl)) ?_)
                      refine Exists.intro ([].map gSpot.enc) (And.intro (rowX (rowN (show [] = [].map gSpot.enc by simp) (show 0 = ([].map gSpot.enc).length by simp)) (fits_map (e := gSpot.enc) (fun _ => ⟨rfl, rfl⟩) _) (appfitJ (by first | simpa using g724 | (simp at g724 ⊢; omega)) rfl)) ?_)
                      exact ⟨(), h, [(999999, 0), (999999, 1), (999999, 4), (999999, 5), (999999, 3), (999999, 2)], ⟨rfl, rfl, rfl, rfl, rfl, trivial⟩, ⟨⟨rfl, rfl, rfl, rfl, rfl, trivial⟩, ⟨rfl, rfl, rfl, rfl, rfl, trivial⟩, ⟨rfl, rfl, (congrArg (AV.row 3 3 0) (show a47.edges_.length = (0 + (a47.edges_.map gSEdge.enc : List PV).length) by simp)), (congrArg (AV.row 4 2 0) (show a47.decls_.length = (0 + (a47.decls_.map gSpot.enc : List PV).length) by simp)), (congrArg (AV.row 5 2 0) (show a47.refs_.length = (0 + (a47.refs_.map gSpot.enc : List PV).length) by simp)), trivial⟩, (congrArg (Bk.row 165 3) (show a47.edges_.map gSEdge.enc = ([].map gSEdge.enc) ++ (a47.edges_.map gSEdge.enc) by simp)), (congrArg (Bk.row 71 2) (show a47.decls_.map gSpot.enc = ([].map gSpot.enc) ++ (a47.decls_.map gSpot.enc) by simp)), (congrArg (Bk.row 71 2) (show a47.refs_.map gSpot.enc = ([].map gSpot.enc) ++ (a47.refs_.map gSpot.enc) by simp)), trivial⟩, rfl⟩
                  · refine And.intro ?_ ?_
                    · refine And.intro (show fits _ _ from trivial) ?_
                      refine And.intro ?_ ?_
                      · skip
                        refine Exists.intro ([].map gSEdge.enc) (And.intro (rowX (rowN (show [] = [].map gSEdge.enc by simp) (show 0 = ([].map gSEdge.enc).length by simp)) (fits_map (e := gSEdge.enc) (fun _ => ⟨rfl, rfl⟩) _) (appfitJ (by first | simpa using g750 | (simp at g750 ⊢; omega)) rfl)) ?_)
                        refine And.intro (show fits _ _ from trivial) ?_
                        refine Exists.intro ([].map gSpot.enc) (And.intro (rowX (rowN (show [] = [].map gSpot.enc by simp) (show 0 = ([].map gSpot.enc).length by simp)) (fits_map (e := gSpot.enc) (fun _ => ⟨rfl, rfl⟩) _) (appfitJ (by first | simpa using g727 | (simp at g727 ⊢; omega)) rfl)) ?_)
                        refine Exists.intro ([].map gSpot.enc) (And.intro (rowX (rowN (show [] = [].map gSpot.enc by simp) (show 0 = ([].map gSpot.enc).length by simp)) (fits_map (e := gSpot.enc) (fun _ => ⟨rfl, rfl⟩) _) (appfitJ (by first | simpa using g724 | (simp at g724 ⊢; omega)) rfl)) ?_)
                        exact ⟨(), h, [(999999, 0), (999999, 1), (999999, 3), (999999, 4), (999999, 5), (999999, 2)], ⟨rfl, rfl, rfl, rfl, rfl, trivial⟩, ⟨⟨rfl, rfl, rfl, rfl, rfl, trivial⟩, ⟨rfl, rfl, rfl, rfl, rfl, trivial⟩, ⟨rfl, rfl, (congrArg (AV.row 3 3 0) (show a47.edges_.length = (0 + (a47.edges_.map gSEdge.enc : List PV).length) by simp)), (congrArg (AV.row 4 2 0) (show a47.decls_.length = (0 + (a47.decls_.map gSpot.enc : List PV).length) by simp)), (congrArg (AV.row 5 2 0) (show a47.refs_.length = (0 + (a47.refs_.map gSpot.enc : List PV).length) by simp)), trivial⟩, (congrArg (Bk.row 165 3) (show a47.edges_.map gSEdge.enc = ([].map gSEdge.enc) ++ (a47.edges_.map gSEdge.enc) by simp)), (congrArg (Bk.row 71 2) (show a47.decls_.map gSpot.enc = ([].map gSpot.enc) ++ (a47.decls_.map gSpot.enc) by simp)), (congrArg (Bk.row 71 2) (show a47.refs_.map gSpot.enc = ([].map gSpot.enc) ++ (a47.refs_.map gSpot.enc) by simp)), trivial⟩, rfl⟩
                      · refine And.intro (show fits _ _ from trivial) ?_
                        refine Exists.intro ([].map gSEdge.enc) (And.intro (rowX (rowN (show [] = [].map gSEdge.enc by simp) (show 0 = ([].map gSEdge.enc).length by simp)) (fits_map (e := gSEdge.enc) (fun _ => ⟨rfl, rfl⟩) _) (appfitJ (by first | simpa using g750 | (simp at g750 ⊢; omega)) rfl)) ?_)
                        refine Exists.intro ([].map gSpot.enc) (And.intro (rowX (rowN (show [] = [].map gSpot.enc by simp) (show 0 = ([].map gSpot.enc).length by simp)) (fits_map (e := gSpot.enc) (fun _ => ⟨rfl, rfl⟩) _) (appfitJ (by first | simpa using g727 | (simp at g727 ⊢; omega)) rfl)) ?_)
                        refine Exists.intro ([].map gSpot.enc) (And.intro (rowX (rowN (show [] = [].map gSpot.enc by simp) (show 0 = ([].map gSpot.enc).length by simp)) (fits_map (e := gSpot.enc) (fun _ => ⟨rfl, rfl⟩) _) (appfitJ (by first | simpa using g724 | (simp at g724 ⊢; omega)) rfl)) ?_)
                        exact ⟨(), h, [(999999, 0), (999999, 1), (999999, 3), (999999, 4), (999999, 5), (999999, 2)], ⟨rfl, rfl, rfl, rfl, rfl, trivial⟩, ⟨⟨rfl, rfl, rfl, rfl, rfl, trivial⟩, ⟨rfl, rfl, rfl, rfl, rfl, trivial⟩, ⟨rfl, rfl, (congrArg (AV.row 3 3 0) (show a47.edges_.length = (0 + (a47.edges_.map gSEdge.enc : List PV).length) by simp)), (congrArg (AV.row 4 2 0) (show a47.decls_.length = (0 + (a47.decls_.map gSpot.enc : List PV).length) by simp)), (congrArg (AV.row 5 2 0) (show a47.refs_.length = (0 + (a47.refs_.map gSpot.enc : List PV).length) by simp)), trivial⟩, (congrArg (Bk.row 165 3) (show a47.edges_.map gSEdge.enc = ([].map gSEdge.enc) ++ (a47.edges_.map gSEdge.enc) by simp)), (congrArg (Bk.row 71 2) (show a47.decls_.map gSpot.enc = ([].map gSpot.enc) ++ (a47.decls_.map gSpot.enc) by simp)), (congrArg (Bk.row 71 2) (show a47.refs_.map gSpot.enc = ([].map gSpot.enc) ++ (a47.refs_.map gSpot.enc) by simp)), trivial⟩, rfl⟩
                    · refine And.intro (show fits _ _ from trivial) ?_
                      refine And.intro (show fits _ _ from trivial) ?_
                      refine Exists.intro ([].map gSEdge.enc) (And.intro (rowX (rowN (show [] = [].map gSEdge.enc by simp) (show 0 = ([].map gSEdge.enc).length by simp)) (fits_map (e := gSEdge.enc) (fun _ => ⟨rfl, rfl⟩) _) (appfitJ (by first | simpa using g750 | (simp at g750 ⊢; omega)) rfl)) ?_)
                      refine Exists.intro ([].map gSpot.enc) (And.intro (rowX (rowN (show [] = [].map gSpot.enc by simp) (show 0 = ([].map gSpot.enc).length by simp)) (fits_map (e := gSpot.enc) (fun _ => ⟨rfl, rfl⟩) _) (appfitJ (by first | simpa using g727 | (simp at g727 ⊢; omega)) rfl)) ?_)
                      refine Exists.intro ([].map gSpot.enc) (And.intro (rowX (rowN (show [] = [].map gSpot.enc by simp) (show 0 = ([].map gSpot.enc).length by simp)) (fits_map (e := gSpot.enc) (fun _ => ⟨rfl, rfl⟩) _) (appfitJ (by first | simpa using g724 | (simp at g724 ⊢; omega)) rfl)) ?_)
                      exact ⟨(), h, [(999999, 0), (999999, 1), (999999, 3), (999999, 5), (999999, 4), (999999, 2)], ⟨rfl, rfl, rfl, rfl, rfl, trivial⟩, ⟨⟨rfl, rfl, rfl, rfl, rfl, trivial⟩, ⟨rfl, rfl, rfl, rfl, rfl, trivial⟩, ⟨rfl, rfl, (congrArg (AV.row 3 3 0) (show a47.edges_.length = (0 + (a47.edges_.map gSEdge.enc : List PV).length) by simp)), (congrArg (AV.row 4 2 0) (show a47.decls_.length = (0 + (a47.decls_.map gSpot.enc : List PV).length) by simp)), (congrArg (AV.row 5 2 0) (show a47.refs_.length = (0 + (a47.refs_.map gSpot.enc : List PV).length) by simp)), trivial⟩, (congrArg (Bk.row 165 3) (show a47.edges_.map gSEdge.enc = ([].map gSEdge.enc) ++ (a47.edges_.map gSEdge.enc) by simp)), (congrArg (Bk.row 71 2) (show a47.decls_.map gSpot.enc = ([].map gSpot.enc) ++ (a47.decls_.map gSpot.enc) by simp)), (congrArg (Bk.row 71 2) (show a47.refs_.map gSpot.enc = ([].map gSpot.enc) ++ (a47.refs_.map gSpot.enc) by simp)), trivial⟩, rfl⟩
              · refine And.intro ?_ ?_
                · refine And.intro (show fits _ _ from trivial) ?_
                  refine And.intro ?_ ?_
                  · skip
                    refine Exists.intro ([].map gSEdge.enc) (And.intro (rowX (rowN (show [] = [].map gSEdge.enc by simp) (show 0 = ([].map gSEdge.enc).length by simp)) (fits_map (e := gSEdge.enc) (fun _ => ⟨rfl, rfl⟩) _) (appfitJ (by first | simpa using g750 | (simp at g750 ⊢; omega)) rfl)) ?_)
                    refine And.intro ?_ ?_
                    · refine And.intro (show fits _ _ from trivial) ?_
                      refine And.intro ?_ ?_
                      · skip
                        refine Exists.intro ([].map gSpot.enc) (And.intro (rowX (rowN (show [] = [].map gSpot.enc by simp) (show 0 = ([].map gSpot.enc).length by simp)) (fits_map (e := gSpot.enc) (fun _ => ⟨rfl, rfl⟩) _) (appfitJ (by first | simpa using g727 | (simp at g727 ⊢; omega)) rfl)) ?_)
                        refine And.intro (show fits _ _ from trivial) ?_
                        refine Exists.intro ([].map gSpot.enc) (And.intro (rowX (rowN (show [] = [].map gSpot.enc by simp) (show 0 = ([].map gSpot.enc).length by simp)) (fits_map (e := gSpot.enc) (fun _ => ⟨rfl, rfl⟩) _) (appfitJ (by first | simpa using g724 | (simp at g724 ⊢; omega)) rfl)) ?_)
                        exact ⟨(), h, [], ⟨rfl, rfl, rfl, rfl, rfl, trivial⟩, ⟨⟨rfl, rfl, rfl, rfl, rfl, trivial⟩, ⟨rfl, rfl, rfl, rfl, rfl, trivial⟩, ⟨rfl, rfl, (congrArg (AV.row 3 3 0) (show a47.edges_.length = (0 + (a47.edges_.map gSEdge.enc : List PV).length) by simp)), (congrArg (AV.row 4 2 0) (show a47.decls_.length = (0 + (a47.decls_.map gSpot.enc : List PV).length) by simp)), (congrArg (AV.row 5 2 0) (show a47.refs_.length = (0 + (a47.refs_.map gSpot.enc : List PV).length) by simp)), trivial⟩, (congrArg (Bk.row 165 3) (show a47.edges_.map gSEdge.enc = ([].map gSEdge.enc) ++ (a47.edges_.map gSEdge.enc) by simp)), (congrArg (Bk.row 71 2) (show a47.decls_.map gSpot.enc = ([].map gSpot.enc) ++ (a47.decls_.map gSpot.enc) by simp)), (congrArg (Bk.row 71 2) (show a47.refs_.map gSpot.enc = ([].map gSpot.enc) ++ (a47.refs_.map gSpot.enc) by simp)), trivial⟩, rfl⟩
                      · refine And.intro (show fits _ _ from trivial) ?_
                        refine Exists.intro ([].map gSpot.enc) (And.intro (rowX (rowN (show [] = [].map gSpot.enc by simp) (show 0 = ([].map gSpot.enc).length by simp)) (fits_map (e := gSpot.enc) (fun _ => ⟨rfl, rfl⟩) _) (appfitJ (by first | simpa using g727 | (simp at g727 ⊢; omega)) rfl)) ?_)
                        refine Exists.intro ([].map gSpot.enc) (And.intro (rowX (rowN (show [] = [].map gSpot.enc by simp) (show 0 = ([].map gSpot.enc).length by simp)) (fits_map (e := gSpot.enc) (fun _ => ⟨rfl, rfl⟩) _) (appfitJ (by first | simpa using g724 | (simp at g724 ⊢; omega)) rfl)) ?_)
                        exact ⟨(), h, [], ⟨rfl, rfl, rfl, rfl, rfl, trivial⟩, ⟨⟨rfl, rfl, rfl, rfl, rfl, trivial⟩, ⟨rfl, rfl, rfl, rfl, rfl, trivial⟩, ⟨rfl, rfl, (congrArg (AV.row 3 3 0) (show a47.edges_.length = (0 + (a47.edges_.map gSEdge.enc : List PV).length) by simp)), (congrArg (AV.row 4 2 0) (show a47.decls_.length = (0 + (a47.decls_.map gSpot.enc : List PV).length) by simp)), (congrArg (AV.row 5 2 0) (show a47.refs_.length = (0 + (a47.refs_.map gSpot.enc : List PV).length) by simp)), trivial⟩, (congrArg (Bk.row 165 3) (show a47.edges_.map gSEdge.enc = ([].map gSEdge.enc) ++ (a47.edges_.map gSEdge.enc) by simp)), (congrArg (Bk.row 71 2) (show a47.decls_.map gSpot.enc = ([].map gSpot.enc) ++ (a47.decls_.map gSpot.enc) by simp)), (congrArg (Bk.row 71 2) (show a47.refs_.map gSpot.enc = ([].map gSpot.enc) ++ (a47.refs_.map gSpot.enc) by simp)), trivial⟩, rfl⟩
                    · refine And.intro (show fits _ _ from trivial) ?_
                      refine And.intro (show fits _ _ from trivial) ?_
                      refine Exists.intro ([].map gSpot.enc) (And.intro (rowX (rowN (show [] = [].map gSpot.enc by simp) (show 0 = ([].map gSpot.enc).length by simp)) (fits_map (e := gSpot.enc) (fun _ => ⟨rfl, rfl⟩) _) (appfitJ (by first | simpa using g727 | (simp at g727 ⊢; omega)) rfl)) ?_)
                      refine Exists.intro ([].map gSpot.enc) (And.intro (rowX (rowN (show [] = [].map gSpot.enc by simp) (show 0 = ([].map gSpot.enc).length by simp)) (fits_map (e := gSpot.enc) (fun _ => ⟨rfl, rfl⟩) _) (appfitJ (by first | simpa using g724 | (simp at g724 ⊢; omega)) rfl)) ?_)
                      exact ⟨(), h, [(999999, 0), (999999, 1), (999999, 2), (999999, 3), (999999, 5), (999999, 4)], ⟨rfl, rfl, rfl, rfl, rfl, trivial⟩, ⟨⟨rfl, rfl, rfl, rfl, rfl, trivial⟩, ⟨rfl, rfl, rfl, rfl, rfl, trivial⟩, ⟨rfl, rfl, (congrArg (AV.row 3 3 0) (show a47.edges_.length = (0 + (a47.edges_.map gSEdge.enc : List PV).length) by simp)), (congrArg (AV.row 4 2 0) (show a47.decls_.length = (0 + (a47.decls_.map gSpot.enc : List PV).length) by simp)), (congrArg (AV.row 5 2 0) (show a47.refs_.length = (0 + (a47.refs_.map gSpot.enc : List PV).length) by simp)), trivial⟩, (congrArg (Bk.row 165 3) (show a47.edges_.map gSEdge.enc = ([].map gSEdge.enc) ++ (a47.edges_.map gSEdge.enc) by simp)), (congrArg (Bk.row 71 2) (show a47.decls_.map gSpot.enc = ([].map gSpot.enc) ++ (a47.decls_.map gSpot.enc) by simp)), (congrArg (Bk.row 71 2) (show a47.refs_.map gSpot.enc = ([].map gSpot.enc) ++ (a47.refs_.map gSpot.enc) by simp)), trivial⟩, rfl⟩
                  · refine And.intro ?_ ?_
                    · refine And.intro (show fits _ _ from trivial) ?_
                      refine And.intro ?_ ?_
                      · skip
                        refine Exists.intro ([].map gSEdge.enc) (And.intro (rowX (rowN (show [] = [].map gSEdge.enc by simp) (show 0 = ([].map gSEdge.enc).length by simp)) (fits_map (e := gSEdge.enc) (fun _ => ⟨rfl, rfl⟩) _) (appfitJ (by first | simpa using g750 | (simp at g750 ⊢; omega)) rfl)) ?_)
                        refine And.intro ?_ ?_
                        · skip
                          refine Exists.intro ([].map gSpot.enc) (And.intro (rowX (rowN (show [] = [].map gSpot.enc by simp) (show 0 = ([].map gSpot.enc).length by simp)) (fits_map (e := gSpot.enc) (fun _ => ⟨rfl, rfl⟩) _) (appfitJ (by first | simpa using g727 | (simp at g727 ⊢; omega)) rfl)) ?_)
                          refine And.intro (show fits _ _ from trivial) ?_
                          refine Exists.intro ([].map gSpot.enc) (And.intro (rowX (rowN (show [] = [].map gSpot.enc by simp) (show 0 = ([].map gSpot.enc).length by simp)) (fits_map (e := gSpot.enc) (fun _ => ⟨rfl, rfl⟩) _) (appfitJ (by first | simpa using g724 | (simp at g724 ⊢; omega)) rfl)) ?_)
                          exact ⟨(), h, [], ⟨rfl, rfl, rfl, rfl, rfl, trivial⟩, ⟨⟨rfl, rfl, rfl, rfl, rfl, trivial⟩, ⟨rfl, rfl, rfl, rfl, rfl, trivial⟩, ⟨rfl, rfl, (congrArg (AV.row 3 3 0) (show a47.edges_.length = (0 + (a47.edges_.map gSEdge.enc : List PV).length) by simp)), (congrArg (AV.row 4 2 0) (show a47.decls_.length = (0 + (a47.decls_.map gSpot.enc : List PV).length) by simp)), (congrArg (AV.row 5 2 0) (show a47.refs_.length = (0 + (a47.refs_.map gSpot.enc : List PV).length) by simp)), trivial⟩, (congrArg (Bk.row 165 3) (show a47.edges_.map gSEdge.enc = ([].map gSEdge.enc) ++ (a47.edges_.map gSEdge.enc) by simp)), (congrArg (Bk.row 71 2) (show a47.decls_.map gSpot.enc = ([].map gSpot.enc) ++ (a47.decls_.map gSpot.enc) by simp)), (congrArg (Bk.row 71 2) (show a47.refs_.map gSpot.enc = ([].map gSpot.enc) ++ (a47.refs_.map gSpot.enc) by simp)), trivial⟩, rfl⟩
                        · refine And.intro (show fits _ _ from trivial) ?_
                          refine Exists.intro ([].map gSpot.enc) (And.intro (rowX (rowN (show [] = [].map gSpot.enc by simp) (show 0 = ([].map gSpot.enc).length by simp)) (fits_map (e := gSpot.enc) (fun _ => ⟨rfl, rfl⟩) _) (appfitJ (by first | simpa using g727 | (simp at g727 ⊢; omega)) rfl)) ?_)
                          refine Exists.intro ([].map gSpot.enc) (And.intro (rowX (rowN (show [] = [].map gSpot.enc by simp) (show 0 = ([].map gSpot.enc).length by simp)) (fits_map (e := gSpot.enc) (fun _ => ⟨rfl, rfl⟩) _) (appfitJ (by first | simpa using g724 | (simp at g724 ⊢; omega)) rfl)) ?_)
                          exact ⟨(), h, [], ⟨rfl, rfl, rfl, rfl, rfl, trivial⟩, ⟨⟨rfl, rfl, rfl, rfl, rfl, trivial⟩, ⟨rfl, rfl, rfl, rfl, rfl, trivial⟩, ⟨rfl, rfl, (congrArg (AV.row 3 3 0) (show a47.edges_.length = (0 + (a47.edges_.map gSEdge.enc : List PV).length) by simp)), (congrArg (AV.row 4 2 0) (show a47.decls_.length = (0 + (a47.decls_.map gSpot.enc : List PV).length) by simp)), (congrArg (AV.row 5 2 0) (show a47.refs_.length = (0 + (a47.refs_.map gSpot.enc : List PV).length) by simp)), trivial⟩, (congrArg (Bk.row 165 3) (show a47.edges_.map gSEdge.enc = ([].map gSEdge.enc) ++ (a47.edges_.map gSEdge.enc) by simp)), (congrArg (Bk.row 71 2) (show a47.decls_.map gSpot.enc = ([].map gSpot.enc) ++ (a47.decls_.map gSpot.enc) by simp)), (congrArg (Bk.row 71 2) (show a47.refs_.map gSpot.enc = ([].map gSpot.enc) ++ (a47.refs_.map gSpot.enc) by simp)), trivial⟩, rfl⟩
                      · refine And.intro (show fits _ _ from trivial) ?_
                        refine Exists.intro ([].map gSEdge.enc) (And.intro (rowX (rowN (show [] = [].map gSEdge.enc by simp) (show 0 = ([].map gSEdge.enc).length by simp)) (fits_map (e := gSEdge.enc) (fun _ => ⟨rfl, rfl⟩) _) (appfitJ (by first | simpa using g750 | (simp at g750 ⊢; omega)) rfl)) ?_)
                        refine Exists.intro ([].map gSpot.enc) (And.intro (rowX (rowN (show [] = [].map gSpot.enc by simp) (show 0 = ([].map gSpot.enc).length by simp)) (fits_map (e := gSpot.enc) (fun _ => ⟨rfl, rfl⟩) _) (appfitJ (by first | simpa using g727 | (simp at g727 ⊢; omega)) rfl)) ?_)
                        refine Exists.intro ([].map gSpot.enc) (And.intro (rowX (rowN (show [] = [].map gSpot.enc by simp) (show 0 = ([].map gSpot.enc).length by simp)) (fits_map (e := gSpot.enc) (fun _ => ⟨rfl, rfl⟩) _) (appfitJ (by first | simpa using g724 | (simp at g724 ⊢; omega)) rfl)) ?_)
                        exact ⟨(), h, [], ⟨rfl, rfl, rfl, rfl, rfl, trivial⟩, ⟨⟨rfl, rfl, rfl, rfl, rfl, trivial⟩, ⟨rfl, rfl, rfl, rfl, rfl, trivial⟩, ⟨rfl, rfl, (congrArg (AV.row 3 3 0) (show a47.edges_.length = (0 + (a47.edges_.map gSEdge.enc : List PV).length) by simp)), (congrArg (AV.row 4 2 0) (show a47.decls_.length = (0 + (a47.decls_.map gSpot.enc : List PV).length) by simp)), (congrArg (AV.row 5 2 0) (show a47.refs_.length = (0 + (a47.refs_.map gSpot.enc : List PV).length) by simp)), trivial⟩, (congrArg (Bk.row 165 3) (show a47.edges_.map gSEdge.enc = ([].map gSEdge.enc) ++ (a47.edges_.map gSEdge.enc) by simp)), (congrArg (Bk.row 71 2) (show a47.decls_.map gSpot.enc = ([].map gSpot.enc) ++ (a47.decls_.map gSpot.enc) by simp)), (congrArg (Bk.row 71 2) (show a47.refs_.map gSpot.enc = ([].map gSpot.enc) ++ (a47.refs_.map gSpot.enc) by simp)), trivial⟩, rfl⟩
                    · refine And.intro (show fits _ _ from trivial) ?_
                      refine And.intro ?_ ?_
                      · skip
                        refine Exists.intro ([].map gSEdge.enc) (And.intro (rowX (rowN (show [] = [].map gSEdge.enc by simp) (show 0 = ([].map gSEdge.enc).length by simp)) (fits_map (e := gSEdge.enc) (fun _ => ⟨rfl, rfl⟩) _) (appfitJ (by first | simpa using g750 | (simp at g750 ⊢; omega)) rfl)) ?_)
                        refine And.intro (show fits _ _ from trivial) ?_
                        refine Exists.intro ([].map gSpot.enc) (And.intro (rowX (rowN (show [] = [].map gSpot.enc by simp) (show 0 = ([].map gSpot.enc).length by simp)) (fits_map (e := gSpot.enc) (fun _ => ⟨rfl, rfl⟩) _) (appfitJ (by first | simpa using g727 | (simp at g727 ⊢; omega)) rfl)) ?_)
                        refine Exists.intro ([].map gSpot.enc) (And.intro (rowX (rowN (show [] = [].map gSpot.enc by simp) (show 0 = ([].map gSpot.enc).length by simp)) (fits_map (e := gSpot.enc) (fun _ => ⟨rfl, rfl⟩) _) (appfitJ (by first | simpa using g724 | (simp at g724 ⊢; omega)) rfl)) ?_)
                        exact ⟨(), h, [(999999, 0), (999999, 1), (999999, 2), (999999, 3), (999999, 5), (999999, 4)], ⟨rfl, rfl, rfl, rfl, rfl, trivial⟩, ⟨⟨rfl, rfl, rfl, rfl, rfl, trivial⟩, ⟨rfl, rfl, rfl, rfl, rfl, trivial⟩, ⟨rfl, rfl, (congrArg (AV.row 3 3 0) (show a47.edges_.length = (0 + (a47.edges_.map gSEdge.enc : List PV).length) by simp)), (congrArg (AV.row 4 2 0) (show a47.decls_.length = (0 + (a47.decls_.map gSpot.enc : List PV).length) by simp)), (congrArg (AV.row 5 2 0) (show a47.refs_.length = (0 + (a47.refs_.map gSpot.enc : List PV).length) by simp)), trivial⟩, (congrArg (Bk.row 165 3) (show a47.edges_.map gSEdge.enc = ([].map gSEdge.enc) ++ (a47.edges_.map gSEdge.enc) by simp)), (congrArg (Bk.row 71 2) (show a47.decls_.map gSpot.enc = ([].map gSpot.enc) ++ (a47.decls_.map gSpot.enc) by simp)), (congrArg (Bk.row 71 2) (show a47.refs_.map gSpot.enc = ([].map gSpot.enc) ++ (a47.refs_.map gSpot.enc) by simp)), trivial⟩, rfl⟩
                      · refine And.intro (show fits _ _ from trivial) ?_
                        refine Exists.intro ([].map gSEdge.enc) (And.intro (rowX (rowN (show [] = [].map gSEdge.enc by simp) (show 0 = ([].map gSEdge.enc).length by simp)) (fits_map (e := gSEdge.enc) (fun _ => ⟨rfl, rfl⟩) _) (appfitJ (by first | simpa using g750 | (simp at g750 ⊢; omega)) rfl)) ?_)
                        refine Exists.intro ([].map gSpot.enc) (And.intro (rowX (rowN (show [] = [].map gSpot.enc by simp) (show 0 = ([].map gSpot.enc).length by simp)) (fits_map (e := gSpot.enc) (fun _ => ⟨rfl, rfl⟩) _) (appfitJ (by first | simpa using g727 | (simp at g727 ⊢; omega)) rfl)) ?_)
                        refine Exists.intro ([].map gSpot.enc) (And.intro (rowX (rowN (show [] = [].map gSpot.enc by simp) (show 0 = ([].map gSpot.enc).length by simp)) (fits_map (e := gSpot.enc) (fun _ => ⟨rfl, rfl⟩) _) (appfitJ (by first | simpa using g724 | (simp at g724 ⊢; omega)) rfl)) ?_)
                        exact ⟨(), h, [(999999, 0), (999999, 1), (999999, 2), (999999, 3), (999999, 5), (999999, 4)], ⟨rfl, rfl, rfl, rfl, rfl, trivial⟩, ⟨⟨rfl, rfl, rfl, rfl, rfl, trivial⟩, ⟨rfl, rfl, rfl, rfl, rfl, trivial⟩, ⟨rfl, rfl, (congrArg (AV.row 3 3 0) (show a47.edges_.length = (0 + (a47.edges_.map gSEdge.enc : List PV).length) by simp)), (congrArg (AV.row 4 2 0) (show a47.decls_.length = (0 + (a47.decls_.map gSpot.enc : List PV).length) by simp)), (congrArg (AV.row 5 2 0) (show a47.refs_.length = (0 + (a47.refs_.map gSpot.enc : List PV).length) by simp)), trivial⟩, (congrArg (Bk.row 165 3) (show a47.edges_.map gSEdge.enc = ([].map gSEdge.enc) ++ (a47.edges_.map gSEdge.enc) by simp)), (congrArg (Bk.row 71 2) (show a47.decls_.map gSpot.enc = ([].map gSpot.enc) ++ (a47.decls_.map gSpot.enc) by simp)), (congrArg (Bk.row 71 2) (show a47.refs_.map gSpot.enc = ([].map gSpot.enc) ++ (a47.refs_.map gSpot.enc) by simp)), trivial⟩, rfl⟩
                · refine And.intro ?_ ?_
                  · refine And.intro (show fits _ _ from trivial) ?_
                    refine And.intro ?_ ?_
                    · refine And.intro (show fits _ _ from trivial) ?_
                      refine And.intro ?_ ?_
                      · skip
                        refine Exists.intro ([].map gSEdge.enc) (And.intro (rowX (rowN (show [] = [].map gSEdge.enc by simp) (show 0 = ([].map gSEdge.enc).length by simp)) (fits_map (e := gSEdge.enc) (fun _ => ⟨rfl, rfl⟩) _) (appfitJ (by first | simpa using g750 | (simp at g750 ⊢; omega)) rfl)) ?_)
                        refine And.intro ?_ ?_
                        · skip
                          refine Exists.intro ([].map gSpot.enc) (And.intro (rowX (rowN (show [] = [].map gSpot.enc by simp) (show 0 = ([].map gSpot.enc).length by simp)) (fits_map (e := gSpot.enc) (fun _ => ⟨rfl, rfl⟩) _) (appfitJ (by first | simpa using g727 | (simp at g727 ⊢; omega)) rfl)) ?_)
                          refine And.intro (show fits _ _ from trivial) ?_
                          refine Exists.intro ([].map gSpot.enc) (And.intro (rowX (rowN (show [] = [].map gSpot.enc by simp) (show 0 = ([].map gSpot.enc).length by simp)) (fits_map (e := gSpot.enc) (fun _ => ⟨rfl, rfl⟩) _) (appfitJ (by first | simpa using g724 | (simp at g724 ⊢; omega)) rfl)) ?_)
                          exact ⟨(), h, [(999999, 0), (999999, 1), (999999, 2), (999999, 4), (999999, 3), (999999, 5)], ⟨rfl, rfl, rfl, rfl, rfl, trivial⟩, ⟨⟨rfl, rfl, rfl, rfl, rfl, trivial⟩, ⟨rfl, rfl, rfl, rfl, rfl, trivial⟩, ⟨rfl, rfl, (congrArg (AV.row 3 3 0) (show a47.edges_.length = (0 + (a47.edges_.map gSEdge.enc : List PV).length) by simp)), (congrArg (AV.row 4 2 0) (show a47.decls_.length = (0 + (a47.decls_.map gSpot.enc : List PV).length) by simp)), (congrArg (AV.row 5 2 0) (show a47.refs_.length = (0 + (a47.refs_.map gSpot.enc : List PV).length) by simp)), trivial⟩, (congrArg (Bk.row 165 3) (show a47.edges_.map gSEdge.enc = ([].map gSEdge.enc) ++ (a47.edges_.map gSEdge.enc) by simp)), (congrArg (Bk.row 71 2) (show a47.decls_.map gSpot.enc = ([].map gSpot.enc) ++ (a47.decls_.map gSpot.enc) by simp)), (congrArg (Bk.row 71 2) (show a47.refs_.map gSpot.enc = ([].map gSpot.enc) ++ (a47.refs_.map gSpot.enc) by simp)), trivial⟩, rfl⟩
                        · refine And.intro (show fits _ _ from trivial) ?_
                          refine Exists.intro ([].map gSpot.enc) (And.intro (rowX (rowN (show [] = [].map gSpot.enc by simp) (show 0 = ([].map gSpot.enc).length by simp)) (fits_map (e := gSpot.enc) (fun _ => ⟨rfl, rfl⟩) _) (appfitJ (by first | simpa using g727 | (simp at g727 ⊢; omega)) rfl)) ?_)
                          refine Exists.intro ([].map gSpot.enc) (And.intro (rowX (rowN (show [] = [].map gSpot.enc by simp) (show 0 = ([].map gSpot.enc).length by simp)) (fits_map (e := gSpot.enc) (fun _ => ⟨rfl, rfl⟩) _) (appfitJ (by first | simpa using g724 | (simp at g724 ⊢; omega)) rfl)) ?_)
                          exact ⟨(), h, [(999999, 0), (999999, 1), (999999, 2), (999999, 4), (999999, 3), (999999, 5)], ⟨rfl, rfl, rfl, rfl, rfl, trivial⟩, ⟨⟨rfl, rfl, rfl, rfl, rfl, trivial⟩, ⟨rfl, rfl, rfl, rfl, rfl, trivial⟩, ⟨rfl, rfl, (congrArg (AV.row 3 3 0) (show a47.edges_.length = (0 + (a47.edges_.map gSEdge.enc : List PV).length) by simp)), (congrArg (AV.row 4 2 0) (show a47.decls_.length = (0 + (a47.decls_.map gSpot.enc : List PV).length) by simp)), (congrArg (AV.row 5 2 0) (show a47.refs_.length = (0 + (a47.refs_.map gSpot.enc : List PV).length) by simp)), trivial⟩, (congrArg (Bk.row 165 3) (show a47.edges_.map gSEdge.enc = ([].map gSEdge.enc) ++ (a47.edges_.map gSEdge.enc) by simp)), (congrArg (Bk.row 71 2) (show a47.decls_.map gSpot.enc = ([].map gSpot.enc) ++ (a47.decls_.map gSpot.enc) by simp)), (congrArg (Bk.row 71 2) (show a47.refs_.map gSpot.enc = ([].map gSpot.enc) ++ (a47.refs_.map gSpot.enc) by simp)), trivial⟩, rfl⟩
                      · refine And.intro (show fits _ _ from trivial) ?_
                        refine Exists.intro ([].map gSEdge.enc) (And.intro (rowX (rowN (show [] = [].map gSEdge.enc by simp) (show 0 = ([].map gSEdge.enc).length by simp)) (fits_map (e := gSEdge.enc) (fun _ => ⟨rfl, rfl⟩) _) (appfitJ (by first | simpa using g750 | (simp at g750 ⊢; omega)) rfl)) ?_)
                        refine Exists.intro ([].map gSpot.enc) (And.intro (rowX (rowN (show [] = [].map gSpot.enc by simp) (show 0 = ([].map gSpot.enc).length by simp)) (fits_map (e := gSpot.enc) (fun _ => ⟨rfl, rfl⟩) _) (appfitJ (by first | simpa using g727 | (simp at g727 ⊢; omega)) rfl)) ?_)
                        refine Exists.intro ([].map gSpot.enc) (And.intro (rowX (rowN (show [] = [].map gSpot.enc by simp) (show 0 = ([].map gSpot.enc).length by simp)) (fits_map (e := gSpot.enc) (fun _ => ⟨rfl, rfl⟩) _) (appfitJ (by first | simpa using g724 | (simp at g724 ⊢; omega)) rfl)) ?_)
                        exact ⟨(), h, [(999999, 0), (999999, 1), (999999, 2), (999999, 4), (999999, 3), (999999, 5)], ⟨rfl, rfl, rfl, rfl, rfl, trivial⟩, ⟨⟨rfl, rfl, rfl, rfl, rfl, trivial⟩, ⟨rfl, rfl, rfl, rfl, rfl, trivial⟩, ⟨rfl, rfl, (congrArg (AV.row 3 3 0) (show a47.edges_.length = (0 + (a47.edges_.map gSEdge.enc : List PV).length) by simp)), (congrArg (AV.row 4 2 0) (show a47.decls_.length = (0 + (a47.decls_.map gSpot.enc : List PV).length) by simp)), (congrArg (AV.row 5 2 0) (show a47.refs_.length = (0 + (a47.refs_.map gSpot.enc : List PV).length) by simp)), trivial⟩, (congrArg (Bk.row 165 3) (show a47.edges_.map gSEdge.enc = ([].map gSEdge.enc) ++ (a47.edges_.map gSEdge.enc) by simp)), (congrArg (Bk.row 71 2) (show a47.decls_.map gSpot.enc = ([].map gSpot.enc) ++ (a47.decls_.map gSpot.enc) by simp)), (congrArg (Bk.row 71 2) (show a47.refs_.map gSpot.enc = ([].map gSpot.enc) ++ (a47.refs_.map gSpot.enc) by simp)), trivial⟩, rfl⟩
                    · refine And.intro (show fits _ _ from trivial) ?_
                      refine And.intro (show fits _ _ from trivial) ?_
                      refine Exists.intro ([].map gSEdge.enc) (And.intro (rowX (rowN (show [] = [].map gSEdge.enc by simp) (show 0 = ([].map gSEdge.enc).length by simp)) (fits_map (e := gSEdge.enc) (fun _ => ⟨rfl, rfl⟩) _) (appfitJ (by first | simpa using g750 | (simp at g750 ⊢; omega)) rfl)) ?_)
                      refine Exists.intro ([].map gSpot.enc) (And.intro (rowX (rowN (show [] = [].map gSpot.enc by simp) (show 0 = ([].map gSpot.enc).length by simp)) (fits_map (e := gSpot.enc) (fun _ => ⟨rfl, rfl⟩) _) (appfitJ (by first | simpa using g727 | (simp at g727 ⊢; omega)) rfl)) ?_)
                      refine Exists.intro ([].map gSpot.enc) (And.intro (rowX (rowN (show [] = [].map gSpot.enc by simp) (show 0 = ([].map gSpot.enc).length by simp)) (fits_map (e := gSpot.enc) (fun _ => ⟨rfl, rfl⟩) _) (appfitJ (by first | simpa using g724 | (simp at g724 ⊢; omega)) rfl)) ?_)
                      exact ⟨(), h, [(999999, 0), (999999, 1), (999999, 2), (999999, 5), (999999, 3), (999999, 4)], ⟨rfl, rfl, rfl, rfl, rfl, trivial⟩, ⟨⟨rfl, rfl, rfl, rfl, rfl, trivial⟩, ⟨rfl, rfl, rfl, rfl, rfl, trivial⟩, ⟨rfl, rfl, (congrArg (AV.row 3 3 0) (show a47.edges_.length = (0 + (a47.edges_.map gSEdge.enc : List PV).length) by simp)), (congrArg (AV.row 4 2 0) (show a47.decls_.length = (0 + (a47.decls_.map gSpot.enc : List PV).length) by simp)), (congrArg (AV.row 5 2 0) (show a47.refs_.length = (0 + (a47.refs_.map gSpot.enc : List PV).length) by simp)), trivial⟩, (congrArg (Bk.row 165 3) (show a47.edges_.map gSEdge.enc = ([].map gSEdge.enc) ++ (a47.edges_.map gSEdge.enc) by simp)), (congrArg (Bk.row 71 2) (show a47.decls_.map gSpot.enc = ([].map gSpot.enc) ++ (a47.decls_.map gSpot.enc) by simp)), (congrArg (Bk.row 71 2) (show a47.refs_.map gSpot.enc = ([].map gSpot.enc) ++ (a47.refs_.map gSpot.enc) by simp)), trivial⟩, rfl⟩
                  · refine And.intro (show fits _ _ from trivial) ?_
                    refine And.intro ?_ ?_
                    · refine And.intro (show fits _ _ from trivial) ?_
                      refine And.intro ?_ ?_
                      · skip
                        refine Exists.intro ([].map gSEdge.enc) (And.intro (rowX (rowN (show [] = [].map gSEdge.enc by simp) (show 0 = ([].map gSEdge.enc).length by simp)) (fits_map (e := gSEdge.enc) (fun _ => ⟨rfl, rfl⟩) _) (appfitJ (by first | simpa using g750 | (simp at g750 ⊢; omega)) rfl)) ?_)
                        refine And.intro (show fits _ _ from trivial) ?_
                        refine Exists.intro ([].map gSpot.enc) (And.intro (rowX (rowN (show [] = [].map gSpot.enc by simp) (show 0 = ([].map gSpot.enc).length by simp)) (fits_map (e := gSpot.enc) (fun _ => ⟨rfl, rfl⟩) _) (appfitJ (by first | simpa using g727 | (simp at g727 ⊢; omega)) rfl)) ?_)
                        refine Exists.intro ([].map gSpot.enc) (And.intro (rowX (rowN (show [] = [].map gSpot.enc by simp) (show 0 = ([].map gSpot.enc).length by simp)) (fits_map (e := gSpot.enc) (fun _ => ⟨rfl, rfl⟩) _) (appfitJ (by first | simpa using g724 | (simp at g724 ⊢; omega)) rfl)) ?_)
                        exact ⟨(), h, [(999999, 0), (999999, 1), (999999, 2), (999999, 4), (999999, 5), (999999, 3)], ⟨rfl, rfl, rfl, rfl, rfl, trivial⟩, ⟨⟨rfl, rfl, rfl, rfl, rfl, trivial⟩, ⟨rfl, rfl, rfl, rfl, rfl, trivial⟩, ⟨rfl, rfl, (congrArg (AV.row 3 3 0) (show a47.edges_.length = (0 + (a47.edges_.map gSEdge.enc : List PV).length) by simp)), (congrArg (AV.row 4 2 0) (show a47.decls_.length = (0 + (a47.decls_.map gSpot.enc : List PV).length) by simp)), (congrArg (AV.row 5 2 0) (show a47.refs_.length = (0 + (a47.refs_.map gSpot.enc : List PV).length) by simp)), trivial⟩, (congrArg (Bk.row 165 3) (show a47.edges_.map gSEdge.enc = ([].map gSEdge.enc) ++ (a47.edges_.map gSEdge.enc) by simp)), (congrArg (Bk.row 71 2) (show a47.decls_.map gSpot.enc = ([].map gSpot.enc) ++ (a47.decls_.map gSpot.enc) by simp)), (congrArg (Bk.row 71 2) (show a47.refs_.map gSpot.enc = ([].map gSpot.enc) ++ (a47.refs_.map gSpot.enc) by simp)), trivial⟩, rfl⟩
                      · refine And.intro (show fits _ _ from trivial) ?_
                        refine Exists.intro ([].map gSEdge.enc) (And.intro (rowX (rowN (show [] = [].map gSEdge.enc by simp) (show 0 = ([].map gSEdge.enc).length by simp)) (fits_map (e := gSEdge.enc) (fun _ => ⟨rfl, rfl⟩) _) (appfitJ (by first | simpa using g750 | (simp at g750 ⊢; omega)) rfl)) ?_)
                        refine Exists.intro ([].map gSpot.enc) (And.intro (rowX (rowN (show [] = [].map gSpot.enc by simp) (show 0 = ([].map gSpot.enc).length by simp)) (fits_map (e := gSpot.enc) (fun _ => ⟨rfl, rfl⟩) _) (appfitJ (by first | simpa using g727 | (simp at g727 ⊢; omega)) rfl)) ?_)
                        refine Exists.intro ([].map gSpot.enc) (And.intro (rowX (rowN (show [] = [].map gSpot.enc by simp) (show 0 = ([].map gSpot.enc).length by simp)) (fits_map (e := gSpot.enc) (fun _ => ⟨rfl, rfl⟩) _) (appfitJ (by first | simpa using g724 | (simp at g724 ⊢; omega)) rfl)) ?_)
                        exact ⟨(), h, [(999999, 0), (999999, 1), (999999, 2), (999999, 4), (999999, 5), (999999, 3)], ⟨rfl, rfl, rfl, rfl, rfl, trivial⟩, ⟨⟨rfl, rfl, rfl, rfl, rfl, trivial⟩, ⟨rfl, rfl, rfl, rfl, rfl, trivial⟩, ⟨rfl, rfl, (congrArg (AV.row 3 3 0) (show a47.edges_.length = (0 + (a47.edges_.map gSEdge.enc : List PV).length) by simp)), (congrArg (AV.row 4 2 0) (show a47.decls_.length = (0 + (a47.decls_.map gSpot.enc : List PV).length) by simp)), (congrArg (AV.row 5 2 0) (show a47.refs_.length = (0 + (a47.refs_.map gSpot.enc : List PV).length) by simp)), trivial⟩, (congrArg (Bk.row 165 3) (show a47.edges_.map gSEdge.enc = ([].map gSEdge.enc) ++ (a47.edges_.map gSEdge.enc) by simp)), (congrArg (Bk.row 71 2) (show a47.decls_.map gSpot.enc = ([].map gSpot.enc) ++ (a47.decls_.map gSpot.enc) by simp)), (congrArg (Bk.row 71 2) (show a47.refs_.map gSpot.enc = ([].map gSpot.enc) ++ (a47.refs_.map gSpot.enc) by simp)), trivial⟩, rfl⟩
                    · refine And.intro (show fits _ _ from trivial) ?_
                      refine And.intro (show fits _ _ from trivial) ?_
                      refine Exists.intro ([].map gSEdge.enc) (And.intro (rowX (rowN (show [] = [].map gSEdge.enc by simp) (show 0 = ([].map gSEdge.enc).length by simp)) (fits_map (e := gSEdge.enc) (fun _ => ⟨rfl, rfl⟩) _) (appfitJ (by first | simpa using g750 | (simp at g750 ⊢; omega)) rfl)) ?_)
                      refine Exists.intro ([].map gSpot.enc) (And.intro (rowX (rowN (show [] = [].map gSpot.enc by simp) (show 0 = ([].map gSpot.enc).length by simp)) (fits_map (e := gSpot.enc) (fun _ => ⟨rfl, rfl⟩) _) (appfitJ (by first | simpa using g727 | (simp at g727 ⊢; omega)) rfl)) ?_)
                      refine Exists.intro ([].map gSpot.enc) (And.intro (rowX (rowN (show [] = [].map gSpot.enc by simp) (show 0 = ([].map gSpot.enc).length by simp)) (fits_map (e := gSpot.enc) (fun _ => ⟨rfl, rfl⟩) _) (appfitJ (by first | simpa using g724 | (simp at g724 ⊢; omega)) rfl)) ?_)
                      exact ⟨(), h, [(999999, 0), (999999, 1), (999999, 2), (999999, 5), (999999, 4), (999999, 3)], ⟨rfl, rfl, rfl, rfl, rfl, trivial⟩, ⟨⟨rfl, rfl, rfl, rfl, rfl, trivial⟩, ⟨rfl, rfl, rfl, rfl, rfl, trivial⟩, ⟨rfl, rfl, (congrArg (AV.row 3 3 0) (show a47.edges_.length = (0 + (a47.edges_.map gSEdge.enc : List PV).length) by simp)), (congrArg (AV.row 4 2 0) (show a47.decls_.length = (0 + (a47.decls_.map gSpot.enc : List PV).length) by simp)), (congrArg (AV.row 5 2 0) (show a47.refs_.length = (0 + (a47.refs_.map gSpot.enc : List PV).length) by simp)), trivial⟩, (congrArg (Bk.row 165 3) (show a47.edges_.map gSEdge.enc = ([].map gSEdge.enc) ++ (a47.edges_.map gSEdge.enc) by simp)), (congrArg (Bk.row 71 2) (show a47.decls_.map gSpot.enc = ([].map gSpot.enc) ++ (a47.decls_.map gSpot.enc) by simp)), (congrArg (Bk.row 71 2) (show a47.refs_.map gSpot.enc = ([].map gSpot.enc) ++ (a47.refs_.map gSpot.enc) by simp)), trivial⟩, rfl⟩
        · rintro _ h
          unfold m_spec_Rename_j3 at h
          refine .inl ?_
          refine ⟨[0, 1, 2, 3, 4, 5, 6, 7, 8, 9, 10, 11, 1012], [], by decide +kernel, ?_⟩
          obtain ⟨x321, hx321, h⟩ := bsm h
          refine And.intro (ix0 hx321) (Exists.intro _ (And.intro (gm (ixg hx321)) (And.intro rfl ?_)))
          obtain ⟨x322, hx322, h⟩ := bsm h
          refine And.intro (ixr hx322) ?_
          refine And.intro ⟨(by have q := ixl hx322; simp at q ⊢; omega), ⟨rfl, rfl⟩, rfl⟩ ?_
          refine .inr ⟨List gSpot, fun x => ([(3, .ptr 0 0), (6, .ptr 1 0), (8, .ptr 2 0)], [.box 65 [.p (I a47.scopes_), .p (.lst (a47.edges_.map gSEdge.enc)), .p (.lst (a47.decls_.map gSpot.enc)), .p (.lst (a47.refs_.map gSpot.enc))], .box 65 [.p (I 0), .tl [], .tl [], .tl []], .box 65 [.p (I a47.scopes_), .row 3 3 0 a47.edges_.length, .row 4 2 0 ((a47.decls_.set a48.toNat (gSpot.mk x321.scope_ a49)).length), .row 5 2 0 x.length], .row 165 3 (a47.edges_.map gSEdge.enc), .row 71 2 ((a47.decls_.set a48.toNat (gSpot.mk x321.scope_ a49)).map gSpot.enc), .row 71 2 (x.map gSpot.enc)]), fun x => m_spec_Rename_j8 n a47 a48 a49 x321 x = some r, ?_, ?_⟩
          · refine .inl ?_
            refine ⟨Int × List gSpot, fun x => ([(1, .p (I a48)), (2, .p (S a49)), (3, .ptr 0 0), (6, .ptr 1 0), (8, .ptr 2 0), (9, .p (I x.1))], [.box 65 [.p (I a47.scopes_), .p (.lst (a47.edges_.map gSEdge.enc)), .p (.lst (a47.decls_.map gSpot.enc)), .p (.lst (a47.refs_.map gSpot.enc))], .box 65 [.p (I 0), .tl [], .tl [], .tl []], .box 65 [.p (I a47.scopes_), .row 3 3 0 a47.edges_.length, .row 4 2 0 ((a47.decls_.set a48.toNat (gSpot.mk x321.scope_ a49)).length), .row 5 2 0 x.2.length], .row 165 3 (a47.edges_.map gSEdge.enc), .row 71 2 ((a47.decls_.set a48.toNat (gSpot.mk x321.scope_ a49)).map gSpot.enc), .row 71 2 (x.2.map gSpot.enc)]), fun x k => m_spec_Rename_l14 n a47 a48 a49 x321 k x.1 x.2 = some r, ⟨(0, a47.refs_), n, h, [], ⟨rfl, rfl, rfl, rfl, rfl, rfl, trivial⟩, ⟨⟨rfl, rfl, rfl, rfl, rfl, trivial⟩, ⟨rfl, rfl, rfl, rfl, rfl, trivial⟩, ⟨rfl, rfl, rfl, (congrArg (AV.row 4 2 0) (show (a47.decls_.set a48.toNat (gSpot.mk x321.scope_ a49)).length = a47.decls_.length by simp)), rfl, trivial⟩, rfl, (congrArg (Bk.row 71 2) (show (a47.decls_.set a48.toNat (gSpot.mk x321.scope_ a49)).map gSpot.enc = (a47.decls_.map gSpot.enc).set (0 + a48.toNat) ((gSpot.mk x321.scope_ a49).enc) by simp)), rfl, trivial⟩, rfl⟩, ?_⟩
            rintro ⟨v240, v241⟩ (_ | k14) h
            · exact ns h
            unfold m_spec_Rename_l14 at h
            refine .inl ?_
            refine .inl ?_
            refine And.intro (fun c => ?_) (fun c => ?_)
            · replace h := cT h c
              refine .inr ⟨List gSpot, fun x => ([(1, .p (I a48)), (2, .p (S a49)), (3, .ptr 0 0), (6, .ptr 1 0), (8, .ptr 2 0), (9, .p (I v240))], [.box 65 [.p (I a47.scopes_), .p (.lst (a47.edges_.map gSEdge.enc)), .p (.lst (a47.decls_.map gSpot.enc)), .p (.lst (a47.refs_.map gSpot.enc))], .box 65 [.p (I 0), .tl [], .tl [], .tl []], .box 65 [.p (I a47.scopes_), .row 3 3 0 a47.edges_.length, .row 4 2 0 ((a47.decls_.set a48.toNat (gSpot.mk x321.scope_ a49)).length), .row 5 2 0 x.length], .row 165 3 (a47.edges_.map gSEdge.enc), .row 71 2 ((a47.decls_.set a48.toNat (gSpot.mk x321.scope_ a49)).map gSpot.enc), .row 71 2 (x.map gSpot.enc)]), fun x => m_spec_Rename_j15 v240 (m_spec_Rename_l14 n a47 a48 a49 x321 k14) x = some r, ?_, ?_⟩
              · refine .inl ?_
                refine ⟨[0, 1, 2, 3, 4, 5, 6, 7], [], by decide +kernel, ?_⟩
                obtain ⟨x414, hx414, h⟩ := bsm h
                refine And.intro (ix0 hx414) (Exists.intro _ (And.intro (gm (ixg hx414)) (And.intro rfl ?_)))
                obtain ⟨r600, hr600, h⟩ := bsm h
                refine callA (c_spec_l12Resolve n a47 x414 _ hr600) ?_
                refine .inl ?_
                refine .inl ?_
                obtain ⟨r601, hr601, h⟩ := bsm h
                refine callA (c_spec_l12Has n r600 a48 _ hr601) ?_
                refine And.intro (fun c => ?_) (fun c => ?_)
                · replace h := cT h c
                  exact ⟨v241, h, [], ⟨rfl, rfl, rfl, rfl, rfl, rfl, trivial⟩, ⟨⟨rfl, rfl, rfl, rfl, rfl, trivial⟩, ⟨rfl, rfl, rfl, rfl, rfl, trivial⟩, ⟨rfl, rfl, rfl, rfl, rfl, trivial⟩, rfl, rfl, rfl, trivial⟩, rfl⟩
                · replace h := cF h c
                  refine .inl ?_
                  refine .inl ?_
                  refine And.intro (fun c => ?_) (fun c => ?_)
                  · replace h := cT h c
                    refine .inl ?_
                    refine .inl ?_
                    replace h := Option.some.inj h
                    subst h
                    exact ⟨[.p ((gSg.mk 0 [] [] []).enc), .p (I 5)], [], ⟨[], ⟨rfl, rfl, trivial⟩, trivial, rfl⟩, rfl, rfl, rfl⟩
                  · replace h := cF h c
                    refine ⟨[0, 1, 2, 3, 4, 5, 6, 7, 8, 9, 10, 11, 1012], [], by decide +kernel, ?_⟩
                    obtain ⟨x417, hx417, h⟩ := bsm h
                    refine And.intro (ix0 hx417) (Exists.intro _ (And.intro (gm (ixg hx417)) (And.intro rfl ?_)))
                    obtain ⟨x418, hx418, h⟩ := bsm h
                    refine And.intro (ixr hx418) ?_
                    refine And.intro ⟨(by have q := ixl hx418; simp at q ⊢; omega), ⟨rfl, rfl⟩, rfl⟩ ?_
                    exact ⟨(v241.set v240.toNat (gSpot.mk x417.scope_ a49)), h, [], ⟨rfl, rfl, rfl, rfl, rfl, rfl, trivial⟩, ⟨⟨rfl, rfl, rfl, rfl, rfl, trivial⟩, ⟨rfl, rfl, rfl, rfl, rfl, trivial⟩, ⟨rfl, rfl, rfl, rfl, (congrArg (AV.row 5 2 0) (show (v241.set v240.toNat (gSpot.mk x417.scope_ a49)).length = v241.length by simp)), trivial⟩, rfl, rfl, (congrArg (Bk.row 71 2) (show (v241.set v240.toNat (gSpot.mk x417.scope_ a49)).map gSpot.enc = (v241.map gSpot.enc).set (0 + v240.toNat) ((gSpot.mk x417.scope_ a49).enc) by simp)), trivial⟩, rfl⟩
              · rintro v245 h
                unfold m_spec_Rename_j15 at h
                exact ⟨((wr .i64 (v240 + 1)), v245), k14, h, Nat.lt_succ_self _, [], ⟨rfl, rfl, rfl, rfl, rfl, rfl, trivial⟩, ⟨⟨rfl, rfl, rfl, rfl, rfl, trivial⟩, ⟨rfl, rfl, rfl, rfl, rfl, trivial⟩, ⟨rfl, rfl, rfl, rfl, rfl, trivial⟩, rfl, rfl, rfl, trivial⟩, rfl⟩
            · replace h := cF h c
              exact ⟨v241, h, [], ⟨rfl, rfl, rfl, trivial⟩, ⟨⟨rfl, rfl, rfl, rfl, rfl, trivial⟩, ⟨rfl, rfl, rfl, rfl, rfl, trivial⟩, ⟨rfl, rfl, rfl, rfl, rfl, trivial⟩, rfl, rfl, rfl, trivial⟩, rfl⟩
          · rintro v234 h
            unfold m_spec_Rename_j8 at h
            refine .inr ⟨Unit, fun x => ([(6, .ptr 0 0), (8, .ptr 1 0)], [.box 65 [.p (I 0), .tl [], .tl [], .tl []], .box 65 [.p (I a47.scopes_), .row 2 3 0 a47.edges_.length, .row 3 2 0 ((a47.decls_.set a48.toNat (gSpot.mk x321.scope_ a49)).length), .row 4 2 0 v234.length], .fz 165 3 (a47.edges_.map gSEdge.enc), .fz 71 2 ((a47.decls_.set a48.toNat (gSpot.mk x321.scope_ a49)).map gSpot.enc), .fz 71 2 (v234.map gSpot.enc)]), fun x => m_spec_Rename_j10 a47 a48 a49 x321 v234 = some r, ?_, ?_⟩
            · refine .inl ?_
              refine ⟨Int, fun x => ([(3, .ptr 0 0), (6, .ptr 1 0), (8, .ptr 2 0), (11, .p (I x))], [.box 65 [.p (I a47.scopes_), .p (.lst (a47.edges_.map gSEdge.enc)), .p (.lst (a47.decls_.map gSpot.enc)), .p (.lst (a47.refs_.map gSpot.enc))], .box 65 [.p (I 0), .tl [], .tl [], .tl []], .box 65 [.p (I a47.scopes_), .row 3 3 0 a47.edges_.length, .row 4 2 0 ((a47.decls_.set a48.toNat (gSpot.mk x321.scope_ a49)).length), .row 5 2 0 v234.length], .fz 165 3 (a47.edges_.map gSEdge.enc), .fz 71 2 ((a47.decls_.set a48.toNat (gSpot.mk x321.scope_ a49)).map gSpot.enc), .fz 71 2 (v234.map gSpot.enc)]), fun x k => m_spec_Rename_l11 n a47 a48 a49 x321 v234 k x = some r, ⟨0, n, h, [(888888, 3), (888888, 4), (888888, 5)], ⟨rfl, rfl, rfl, rfl, trivial⟩, ⟨⟨rfl, rfl, rfl, rfl, rfl, trivial⟩, ⟨rfl, rfl, rfl, rfl, rfl, trivial⟩, ⟨rfl, rfl, rfl, rfl, rfl, trivial⟩, rfl, rfl, rfl, trivial⟩, rfl⟩, ?_⟩
              rintro v237 (_ | k11) h
              · exact ns h
              unfold m_spec_Rename_l11 at h
              refine .inl ?_
              refine .inl ?_
              refine And.intro (fun c => ?_) (fun c => ?_)
              · replace h := cT h c
                refine .inl ?_
                refine .inl ?_
                refine ⟨[0, 1, 2, 3, 4, 5, 7, 8, 9, 10, 11, 12, 6, 13, 14, 15], [], by decide +kernel, ?_⟩
                obtain ⟨x381, hx381, h⟩ := bsm h
                refine And.intro (ix0 hx381) (Exists.intro _ (And.intro (gm (ixg hx381)) (And.intro rfl ?_)))
                obtain ⟨x382, hx382, h⟩ := bsm h
                refine And.intro (ixr hx382) ?_
                refine Exists.intro _ (And.intro (gz (gm (ixg hx382))) ?_)
                obtain ⟨r581, hr581, h⟩ := bsm h
                refine callA (c_spec_l12Resolve n a47 x381 _ hr581) ?_
                obtain ⟨r582, hr582, h⟩ := bsm h
                refine callP (c_spec_l12Resolve n (gSg.mk a47.scopes_ a47.edges_ (a47.decls_.set a48.toNat (gSpot.mk x321.scope_ a49)) v234) x382 _ hr582) (fun K hk => Exists.intro _ (And.intro (rowN rfl (show a47.edges_.length = (a47.edges_.map gSEdge.enc).length by simp)) (Exists.intro _ (And.intro (rowN rfl (show (a47.decls_.set a48.toNat (gSpot.mk x321.scope_ a49)).length = ((a47.decls_.set a48.toNat (gSpot.mk x321.scope_ a49)).map gSpot.enc).length by simp)) (Exists.intro _ (And.intro (rowN rfl (show v234.length = (v234.map gSpot.enc).length by simp)) hk)))))) ?_
                obtain ⟨r583, hr583, h⟩ := bsm h
                refine callA (c_spec_l05SameInts n r581 r582 _ hr583) ?_
                refine And.intro (fun c => ?_) (fun c => ?_)
                · replace h := cT h c
                  refine .inl ?_
                  refine .inl ?_
                  replace h := Option.some.inj h
                  subst h
                  exact ⟨[.p ((gSg.mk 0 [] [] []).enc), .p (I 12)], [], ⟨[], ⟨rfl, rfl, trivial⟩, trivial, rfl⟩, rfl, rfl, rfl⟩
                · replace h := cF h c
                  exact ⟨(wr .i64 (v237 + 1)), k11, h, Nat.lt_succ_self _, [], ⟨rfl, rfl, rfl, rfl, trivial⟩, ⟨⟨rfl, rfl, rfl, rfl, rfl, trivial⟩, ⟨rfl, rfl, rfl, rfl, rfl, trivial⟩, ⟨rfl, rfl, rfl, rfl, rfl, trivial⟩, rfl, rfl, rfl, trivial⟩, rfl⟩
              · replace h := cF h c
                exact ⟨(), h, [(999999, 1), (999999, 2), (999999, 3), (999999, 4), (999999, 5)], ⟨rfl, rfl, trivial⟩, ⟨⟨rfl, rfl, rfl, rfl, rfl, trivial⟩, ⟨rfl, rfl, rfl, rfl, rfl, trivial⟩, rfl, rfl, rfl, trivial⟩, rfl⟩
            · rintro _ h
              unfold m_spec_Rename_j10 at h
              refine .inl ?_
              refine .inl (Exists.intro _ (And.intro (rowN rfl (show a47.edges_.length = (a47.edges_.map gSEdge.enc).length by simp)) (Exists.intro _ (And.intro (rowN rfl (show (a47.decls_.set a48.toNat (gSpot.mk x321.scope_ a49)).length = ((a47.decls_.set a48.toNat (gSpot.mk x321.scope_ a49)).map gSpot.enc).length by simp)) (Exists.intro _ (And.intro (rowN rfl (show v234.length = (v234.map gSpot.enc).length by simp)) ?_))))))
              replace h := Option.some.inj h
              subst h
              exact ⟨[.p ((gSg.mk a47.scopes_ a47.edges_ (a47.decls_.set a48.toNat (gSpot.mk x321.scope_ a49)) v234).enc), .p (I 0)], [], ⟨[], ⟨rfl, rfl, trivial⟩, trivial, rfl⟩, rfl, rfl, rfl⟩
def m_impl_isLetter (n : Nat) (a50 : Int) : Option Bool :=
  bif (decide (a50 ≥ 97)) then (
    bif (decide (a50 ≤ 122)) then (
      some true)
    else (
      bif (decide (a50 ≥ 65)) then (
        some (decide (a50 ≤ 90)))
      else (
        some false)))
  else (
    bif (decide (a50 ≥ 65)) then (
      some (decide (a50 ≤ 90)))
    else (
      some false))
theorem c_impl_isLetter (n : Nat) (a50 : Int) (r : Bool) (h : m_impl_isLetter n a50 = some r) : FnP Try.prog 161 [.raw (.int .u8 a50)] [B r] := by
  unfold m_impl_isLetter at h
  refine fn_introJ Try.func161 rfl rfl rfl ?_
  refine .inl ?_
  refine .inl ?_
  refine And.intro (fun c => ?_) (fun c => ?_)
  · replace h := cT h c
    refine And.intro (fun _ => ?_) (fun c => absurd c (by decide))
    refine And.intro (fun _ => ?_) (fun c => absurd c (by decide))
    refine And.intro (fun c => ?_) (fun c => ?_)
    · replace h := cF h c
      refine And.intro (fun _ => ?_) (fun c => absurd c (by decide))
      refine And.intro (fun _ => ?_) (fun c => absurd c (by decide))
      refine And.intro (fun c => ?_) (fun c => ?_)
      · replace h := cT h c
        refine And.intro (fun _ => ?_) (fun c => absurd c (by decide))
        refine And.intro (fun _ => ?_) (fun c => absurd c (by decide))
        refine And.intro (fun _ => ?_) (fun c => absurd c (by decide))
        refine And.intro (fun c => absurd c (by decide)) (fun _ => ?_)
        replace h := Option.some.inj h
        subst h
        exact ⟨[.p (B (decide (a50 ≤ 90)))], [], ⟨[], ⟨rfl, trivial⟩, trivial, rfl⟩, rfl, rfl, rfl⟩
      · replace h := cF h c
        refine And.intro (fun c => absurd c (by decide)) (fun _ => ?_)
        refine And.intro (fun _ => ?_) (fun c => absurd c (by decide))
        refine And.intro (fun c => absurd c (by decide)) (fun _ => ?_)
        refine And.intro (fun c => absurd c (by decide)) (fun _ => ?_)
        replace h := Option.some.inj h
        subst h
        exact ⟨[.p (B false)], [], ⟨[], ⟨rfl, trivial⟩, trivial, rfl⟩, rfl, rfl, rfl⟩
    · replace h := cT h c
      refine And.intro (fun c => absurd c (by decide)) (fun _ => ?_)
      refine And.intro (fun c => absurd c (by decide)) (fun _ => ?_)
      refine And.intro (fun c => absurd c (by decide)) (fun _ => ?_)
      refine And.intro (fun _ => ?_) (fun c => absurd c (by decide))
      replace h := Option.some.inj h
      subst h
      exact ⟨[.p (B true)], [], ⟨[], ⟨rfl, trivial⟩, trivial, rfl⟩, rfl, rfl, rfl⟩
  · replace h := cF h c
    refine And.intro (fun c => absurd c (by decide)) (fun _ => ?_)
    refine And.intro (fun c => absurd c (by decide)) (fun _ => ?_)
    refine And.intro (fun _ => ?_) (fun c => absurd c (by decide))
    refine And.intro (fun _ => ?_) (fun c => absurd c (by decide))
    refine And.intro (fun _ => ?_) (fun c => absurd c (by decide))
    refine And.intro (fun c => ?_) (fun c => ?_)
    · replace h := cT h c
      refine And.intro (fun _ => ?_) (fun c => absurd c (by decide))
      refine And.intro (fun _ => ?_) (fun c => absurd c (by decide))
      refine And.intro (fun _ => ?_) (fun c => absurd c (by decide))
      refine And.intro (fun c => absurd c (by decide)) (fun _ => ?_)
      replace h := Option.some.inj h
      subst h
      exact ⟨[.p (B (decide (a50 ≤ 90)))], [], ⟨[], ⟨rfl, trivial⟩, trivial, rfl⟩, rfl, rfl, rfl⟩
    · replace h := cF h c
      refine And.intro (fun c => absurd c (by decide)) (fun _ => ?_)
      refine And.intro (fun _ => ?_) (fun c => absurd c (by decide))
      refine And.intro (fun c => absurd c (by decide)) (fun _ => ?_)
      refine And.intro (fun c => absurd c (by decide)) (fun _ => ?_)
      replace h := Option.some.inj h
      subst h
      exact ⟨[.p (B false)], [], ⟨[], ⟨rfl, trivial⟩, trivial, rfl⟩, rfl, rfl, rfl⟩
def m_impl_isDigit (n : Nat) (a51 : Int) : Option Bool :=
  bif (decide (a51 ≥ 48)) then (
    some (decide (a51 ≤ 57)))
  else (
    some false)
theorem c_impl_isDigit (n : Nat) (a51 : Int) (r : Bool) (h : m_impl_isDigit n a51 = some r) : FnP Try.prog 214 [.raw (.int .u8 a51)] [B r] := by
  unfold m_impl_isDigit at h
  refine fn_introJ Try.func214 rfl rfl rfl ?_
  refine .inl ?_
  refine .inl ?_
  refine And.intro (fun c => ?_) (fun c => ?_)
  · replace h := cT h c
    refine And.intro (fun _ => ?_) (fun c => absurd c (by decide))
    refine And.intro (fun _ => ?_) (fun c => absurd c (by decide))
    replace h := Option.some.inj h
    subst h
    exact ⟨[.p (B (decide (a51 ≤ 57)))], [], ⟨[], ⟨rfl, trivial⟩, trivial, rfl⟩, rfl, rfl, rfl⟩
  · replace h := cF h c
    refine And.intro (fun c => absurd c (by decide)) (fun _ => ?_)
    refine And.intro (fun c => absurd c (by decide)) (fun _ => ?_)
    replace h := Option.some.inj h
    subst h
    exact ⟨[.p (B false)], [], ⟨[], ⟨rfl, trivial⟩, trivial, rfl⟩, rfl, rfl, rfl⟩
def m_impl_inName (n : Nat) (a52 : Int) : Option Bool :=
  (m_impl_isLetter n a52).bind fun r604 =>
  bif r604 then (
    some true)
  else (
    (m_impl_isDigit n a52).bind fun r605 =>
    bif r605 then (
      some true)
    else (
      some (a52 == 95)))
theorem c_impl_inName (n : Nat) (a52 : Int) (r : Bool) (h : m_impl_inName n a52 = some r) : FnP Try.prog 162 [.raw (.int .u8 a52)] [B r] := by
  unfold m_impl_inName at h
  refine fn_introJ Try.func162 rfl rfl rfl ?_
  refine .inl ?_
  refine .inl ?_
  obtain ⟨r604, hr604, h⟩ := bsm h
  refine callA (c_impl_isLetter n a52 _ hr604) ?_
  refine And.intro (fun c => ?_) (fun c => ?_)
  · replace h := cF h c
    refine And.intro (fun _ => ?_) (fun c => absurd c (by decide))
    obtain ⟨r605, hr605, h⟩ := bsm h
    refine callA (c_impl_isDigit n a52 _ hr605) ?_
    refine And.intro (fun c => absurd c (by decide)) (fun _ => ?_)
    refine And.intro (fun c => ?_) (fun c => ?_)
    · replace h := cF h c
      refine And.intro (fun _ => ?_) (fun c => absurd c (by decide))
      refine And.intro (fun c => absurd c (by decide)) (fun _ => ?_)
      replace h := Option.some.inj h
      subst h
      exact ⟨[.p (B (a52 == 95))], [], ⟨[], ⟨rfl, trivial⟩, trivial, rfl⟩, rfl, rfl, rfl⟩
    · replace h := cT h c
      refine And.intro (fun c => absurd c (by decide)) (fun _ => ?_)
      refine And.intro (fun _ => ?_) (fun c => absurd c (by decide))
      replace h := Option.some.inj h
      subst h
      exact ⟨[.p (B true)], [], ⟨[], ⟨rfl, trivial⟩, trivial, rfl⟩, rfl, rfl, rfl⟩
  · replace h := cT h c
    refine And.intro (fun c => absurd c (by decide)) (fun _ => ?_)
    refine And.intro (fun _ => ?_) (fun c => absurd c (by decide))
    refine And.intro (fun c => absurd c (by decide)) (fun _ => ?_)
    refine And.intro (fun c => absurd c (by decide)) (fun _ => ?_)
    refine And.intro (fun _ => ?_) (fun c => absurd c (by decide))
    replace h := Option.some.inj h
    subst h
    exact ⟨[.p (B true)], [], ⟨[], ⟨rfl, trivial⟩, trivial, rfl⟩, rfl, rfl, rfl⟩
def m_impl_nameOK_j2 : Option Bool :=
  some true
def m_impl_nameOK_l3 (n : Nat) (a53 : ByteArray) : Nat → Int → Option Bool
  | 0, _ => none
  | k3 + 1, v248 =>
    bif (decide (v248 < (a53.size : Int))) then (
      gp (0 ≤ v248 ∧ v248 < (a53.size : Int)) <|
      (m_impl_inName n (bt a53 v248)).bind fun r613 =>
      bif (!r613) then (
        some false)
      else (
        (m_impl_nameOK_l3 n a53 k3) (wr .i64 (v248 + 1))))
    else (
      m_impl_nameOK_j2)
def m_impl_nameOK (n : Nat) (a53 : ByteArray) : Option Bool :=
  bif (decide ((a53.size : Int) < 1)) then (
    some false)
  else (
    bif (decide ((a53.size : Int) > 24)) then (
      some false)
    else (
      gp (0 ≤ (0 : Int) ∧ (0 : Int) < (a53.size : Int)) <|
      (m_impl_isLetter n (bt a53 0)).bind fun r607 =>
      bif (!r607) then (
        some false)
      else (
        m_impl_nameOK_l3 n a53 n 0)))
theorem c_impl_nameOK (n : Nat) (a53 : ByteArray) (r : Bool) (h : m_impl_nameOK n a53 = some r) : FnP Try.prog 80 [S a53] [B r] := by
  unfold m_impl_nameOK at h
  refine fn_introJ Try.func80 rfl rfl rfl ?_
  refine .inl ?_
  refine .inl ?_
  refine .inl ?_
  refine And.intro (fun c => ?_) (fun c => ?_)
  · replace h := cF h c
    refine And.intro (fun _ => ?_) (fun c => absurd c (by decide))
    refine And.intro (fun _ => ?_) (fun c => absurd c (by decide))
    refine And.intro (fun c => absurd c (by decide)) (fun _ => ?_)
    refine And.intro (fun c => ?_) (fun c => ?_)
    · replace h := cF h c
      refine And.intro (fun _ => ?_) (fun c => absurd c (by decide))
      obtain ⟨g8, h⟩ := gpT h
      refine And.intro g8 ?_
      refine And.intro (fun _ => ?_) (fun c => absurd c (by decide))
      obtain ⟨r607, hr607, h⟩ := bsm h
      refine callA (c_impl_isLetter n (bt a53 0) _ hr607) ?_
      refine And.intro (fun _ => ?_) (fun c => absurd c (by decide))
      refine And.intro (fun c => absurd c (by decide)) (fun _ => ?_)
      refine And.intro (fun c => ?_) (fun c => ?_)
      · replace h := cT h c
        refine .inl ?_
        replace h := Option.some.inj h
        subst h
        exact ⟨[.p (B false)], [], ⟨[], ⟨rfl, trivial⟩, trivial, rfl⟩, rfl, rfl, rfl⟩
      · replace h := cF h c
        refine .inr ⟨Unit, fun x => ([], []), fun x => m_impl_nameOK_j2 = some r, ?_, ?_⟩
        · refine .inl ?_
          refine ⟨Int, fun x => ([(0, .p (S a53)), (3, .p (I x))], []), fun x k => m_impl_nameOK_l3 n a53 k x = some r, ⟨0, n, h, [], ⟨rfl, rfl, trivial⟩, trivial, rfl⟩, ?_⟩
          rintro v248 (_ | k3) h
          · exact ns h
          unfold m_impl_nameOK_l3 at h
          refine .inl ?_
          refine .inl ?_
          refine And.intro (fun c => ?_) (fun c => ?_)
          · replace h := cT h c
            refine .inl ?_
            refine .inl ?_
            obtain ⟨g7, h⟩ := gpT h
            refine And.intro g7 ?_
            obtain ⟨r613, hr613, h⟩ := bsm h
            refine callA (c_impl_inName n (bt a53 v248) _ hr613) ?_
            refine And.intro (fun c => ?_) (fun c => ?_)
            · replace h := cT h c
              refine .inl ?_
              replace h := Option.some.inj h
              subst h
              exact ⟨[.p (B false)], [], ⟨[], ⟨rfl, trivial⟩, trivial, rfl⟩, rfl, rfl, rfl⟩
            · replace h := cF h c
              exact ⟨(wr .i64 (v248 + 1)), k3, h, Nat.lt_succ_self _, [], ⟨rfl, rfl, trivial⟩, trivial, rfl⟩
          · replace h := cF h c
            exact ⟨(), h, [], trivial, trivial, rfl⟩
        · rintro _ h
          unfold m_impl_nameOK_j2 at h
          refine .inl ?_
          replace h := Option.some.inj h
          subst h
          exact ⟨[.p (B true)], [], ⟨[], ⟨rfl, trivial⟩, trivial, rfl⟩, rfl, rfl, rfl⟩
    · replace h := cT h c
      refine And.intro (fun c => absurd c (by decide)) (fun _ => ?_)
      refine And.intro (fun c => absurd c (by decide)) (fun _ => ?_)
      refine And.intro (fun c => absurd c (by decide)) (fun _ => ?_)
      refine And.intro (fun _ => ?_) (fun c => absurd c (by decide))
      refine And.intro (fun _ => ?_) (fun c => absurd c (by decide))
      refine .inl ?_
      replace h := Option.some.inj h
      subst h
      exact ⟨[.p (B false)], [], ⟨[], ⟨rfl, trivial⟩, trivial, rfl⟩, rfl, rfl, rfl⟩
  · replace h := cT h c
    refine And.intro (fun c => absurd c (by decide)) (fun _ => ?_)
    refine And.intro (fun c => absurd c (by decide)) (fun _ => ?_)
    refine And.intro (fun _ => ?_) (fun c => absurd c (by decide))
    refine And.intro (fun c => absurd c (by decide)) (fun _ => ?_)
    refine And.intro (fun c => absurd c (by decide)) (fun _ => ?_)
    refine And.intro (fun c => absurd c (by decide)) (fun _ => ?_)
    refine And.intro (fun c => absurd c (by decide)) (fun _ => ?_)
    refine And.intro (fun _ => ?_) (fun c => absurd c (by decide))
    refine And.intro (fun _ => ?_) (fun c => absurd c (by decide))
    refine .inl ?_
    replace h := Option.some.inj h
    subst h
    exact ⟨[.p (B false)], [], ⟨[], ⟨rfl, trivial⟩, trivial, rfl⟩, rfl, rfl, rfl⟩
def m_impl_SgOK_1 (n : Nat) (a55 : Int) (a56 : gSg) : Option (Bool × gSg) :=
  bif (decide (a55 ≥ 0)) then (
    some ((decide (a55 < a56.scopes_)), a56))
  else (
    some (false, a56))
theorem c_impl_SgOK_1 (n : Nat) (a55 : Int) (a56 : gSg) (r : Bool × gSg) (h : m_impl_SgOK_1 n a55 a56 = some r) : Sy.Fn Try.prog 115 [.p (I a55), .ptr 0 0] [.box 65 [.p (I a56.scopes_), .p (.lst (a56.edges_.map gSEdge.enc)), .p (.lst (a56.decls_.map gSpot.enc)), .p (.lst (a56.refs_.map gSpot.enc))]] (fun rs τ' => rs = [.p (B r.1)] ∧ τ' = [.box 65 [.p (I r.2.scopes_), .p (.lst (r.2.edges_.map gSEdge.enc)), .p (.lst (r.2.decls_.map gSpot.enc)), .p (.lst (r.2.refs_.map gSpot.enc))]]) := by
  unfold m_impl_SgOK_1 at h
  refine fn_introJ Try.func115 rfl rfl rfl ?_
  refine .inl ?_
  refine .inl ?_
  refine And.intro (fun c => ?_) (fun c => ?_)
  · replace h := cT h c
    refine And.intro (fun _ => ?_) (fun c => absurd c (by decide))
    refine And.intro (fun _ => ?_) (fun c => absurd c (by decide))
    refine And.intro (fun _ => ?_) (fun c => absurd c (by decide))
    refine And.intro (fun _ => ?_) (fun c => absurd c (by decide))
    replace h := Option.some.inj h
    subst h
    exact ⟨[.p (B (decide (a55 < a56.scopes_)))], [.box 65 [.p (I a56.scopes_), .p (.lst (a56.edges_.map gSEdge.enc)), .p (.lst (a56.decls_.map gSpot.enc)), .p (.lst (a56.refs_.map gSpot.enc))]], ⟨[], ⟨rfl, trivial⟩, ⟨⟨rfl, rfl, rfl, rfl, rfl, trivial⟩, trivial⟩, rfl⟩, rfl, rfl, rfl⟩
  · replace h := cF h c
    refine And.intro (fun c => absurd c (by decide)) (fun _ => ?_)
    refine And.intro (fun c => absurd c (by decide)) (fun _ => ?_)
    refine And.intro (fun c => absurd c (by decide)) (fun _ => ?_)
    refine And.intro (fun c => absurd c (by decide)) (fun _ => ?_)
    replace h := Option.some.inj h
    subst h
    exact ⟨[.p (B false)], [.box 65 [.p (I a56.scopes_), .p (.lst (a56.edges_.map gSEdge.enc)), .p (.lst (a56.decls_.map gSpot.enc)), .p (.lst (a56.refs_.map gSpot.enc))]], ⟨[], ⟨rfl, trivial⟩, ⟨⟨rfl, rfl, rfl, rfl, rfl, trivial⟩, trivial⟩, rfl⟩, rfl, rfl, rfl⟩
def m_impl_SgOK_j13 : Option Bool :=
  some true
def m_impl_SgOK_j22 (v295 : Int) (rec20 : Int → gSg → Option Bool) (v312 : gSg) : Option Bool :=
  rec20 (wr .i64 (v295 + 1)) v312
def m_impl_SgOK_l23 (n : Nat) (v295 : Int) (rec20 : Int → gSg → Option Bool) (x466 : List gSpot) : Nat → Int → gSg → Option Bool
  | 0, _, _ => none
  | k23 + 1, v313, v314 =>
    bif (decide (v313 < ((x466.map gSpot.enc).length : Int))) then (
      (ix x466 v313).bind fun x469 =>
      (m_impl_SgOK_1 n x469.scope_ v314).bind fun r690 =>
      bif (!r690.1) then (
        some false)
      else (
        (m_impl_nameOK n x469.name_).bind fun r691 =>
        bif (!r691) then (
          some false)
        else (
          (m_impl_SgOK_l23 n v295 rec20 x466 k23) (wr .i64 (v313 + 1)) r690.2)))
    else (
      m_impl_SgOK_j22 v295 rec20 v314)
def m_impl_SgOK_l20 (n : Nat) (v254 : gSg) : Nat → Int → gSg → Option Bool
  | 0, _, _ => none
  | k20 + 1, v295, v296 =>
    bif (decide (v295 < ((2 : Nat) : Int))) then (
      (ix [v254.decls_, v254.refs_] v295).bind fun x466 =>
      m_impl_SgOK_l23 n v295 (m_impl_SgOK_l20 n v254 k20) x466 n 0 v296)
    else (
      m_impl_SgOK_j13)
def m_impl_SgOK_j2 (n : Nat) (v254 : gSg) : Option Bool :=
  m_impl_SgOK_l20 n v254 n 0 v254
def m_impl_SgOK_l24 (n : Nat) (a54 : gSg) : Nat → Int → gSg → Option Bool
  | 0, _, _ => none
  | k24 + 1, v317, v318 =>
    bif (decide (v317 < ((a54.edges_.map gSEdge.enc).length : Int))) then (
      (ix a54.edges_ v317).bind fun x472 =>
      (m_impl_SgOK_1 n x472.from_ v318).bind fun r696 =>
      bif (!r696.1) then (
        some false)
      else (
        (m_impl_SgOK_1 n x472.to_ r696.2).bind fun r697 =>
        bif (!r697.1) then (
          some false)
        else (
          bif (x472.kind_ != 1) then (
            bif (x472.kind_ != 2) then (
              some false)
            else (
              (m_impl_SgOK_l24 n a54 k24) (wr .i64 (v317 + 1)) r697.2))
          else (
            (m_impl_SgOK_l24 n a54 k24) (wr .i64 (v317 + 1)) r697.2))))
    else (
      m_impl_SgOK_j2 n v318)
def m_impl_SgOK (n : Nat) (a54 : gSg) : Option Bool :=
  bif (decide (a54.scopes_ < 1)) then (
    some false)
  else (
    bif (decide (a54.scopes_ > 60)) then (
      some false)
    else (
      bif (decide (((a54.edges_.map gSEdge.enc).length : Int) > 120)) then (
        some false)
      else (
        bif (decide (((a54.decls_.map gSpot.enc).length : Int) > 120)) then (
          some false)
        else (
          bif (decide (((a54.refs_.map gSpot.enc).length : Int) > 120)) then (
            some false)
          else (
            m_impl_SgOK_l24 n a54 n 0 a54)))))
theorem c_impl_SgOK (n : Nat) (a54 : gSg) (r : Bool) (h : m_impl_SgOK n a54 = some r) : FnP Try.prog 45 [a54.enc] [B r] := by
  unfold m_impl_SgOK at h
  refine fn_introJ Try.func45 rfl rfl rfl ?_
  refine .inl ?_
  refine .inl ?_
  refine .inl ?_
  refine And.intro (fun c => ?_) (fun c => ?_)
  · replace h := cF h c
    refine And.intro (fun _ => ?_) (fun c => absurd c (by decide))
    refine And.intro (fun _ => ?_) (fun c => absurd c (by decide))
    refine And.intro (fun c => absurd c (by decide)) (fun _ => ?_)
    refine And.intro (fun c => ?_) (fun c => ?_)
    · replace h := cF h c
      refine And.intro (fun _ => ?_) (fun c => absurd c (by decide))
      refine And.intro (fun _ => ?_) (fun c => absurd c (by decide))
      refine And.intro (fun _ => ?_) (fun c => absurd c (by decide))
      refine And.intro (fun c => absurd c (by decide)) (fun _ => ?_)
      refine And.intro (fun c => ?_) (fun c => ?_)
      · replace h := cF h c
        refine And.intro (fun _ => ?_) (fun c => absurd c (by decide))
        refine And.intro (fun _ => ?_) (fun c => absurd c (by decide))
        refine And.intro (fun _ => ?_) (fun c => absurd c (by decide))
        refine And.intro (fun c => absurd c (by decide)) (fun _ => ?_)
        refine And.intro (fun c => ?_) (fun c => ?_)
        · replace h := cF h c
          refine And.intro (fun _ => ?_) (fun c => absurd c (by decide))
          refine And.intro (fun _ => ?_) (fun c => absurd c (by decide))
          refine And.intro (fun _ => ?_) (fun c => absurd c (by decide))
          refine And.intro (fun c => absurd c (by decide)) (fun _ => ?_)
          refine And.intro (fun c => ?_) (fun c => ?_)
          · replace h := cT h c
            refine .inl ?_
            replace h := Option.some.inj h
            subst h
            exact ⟨[.p (B false)], [], ⟨[], ⟨rfl, trivial⟩, trivial, rfl⟩, rfl, rfl, rfl⟩
          · replace h := cF h c
            refine .inl ?_
            refine .inr ⟨gSg, fun x => ([(1, .ptr 0 0), (3, .fn 115 [.ptr 0 0])], [.box 65 [.p (I x.scopes_), .p (.lst (x.edges_.map gSEdge.enc)), .p (.lst (x.decls_.map gSpot.enc)), .p (.lst (x.refs_.map gSpot.enc))]]), fun x => m_impl_SgOK_j2 n x = some r, ?_, ?_⟩
            · refine .inl ?_
              refine ⟨Int × gSg, fun x => ([(1, .ptr 0 0), (3, .fn 115 [.ptr 0 0]), (38, .p (.lst (a54.edges_.map gSEdge.enc))), (39, .p (I ((a54.edges_.map gSEdge.enc).length : Int))), (40, .p (I x.1))], [.box 65 [.p (I x.2.scopes_), .p (.lst (x.2.edges_.map gSEdge.enc)), .p (.lst (x.2.decls_.map gSpot.enc)), .p (.lst (x.2.refs_.map gSpot.enc))]]), fun x k => m_impl_SgOK_l24 n a54 k x.1 x.2 = some r, ⟨(0, a54), n, h, [], ⟨rfl, rfl, rfl, rfl, rfl, trivial⟩, ⟨⟨rfl, rfl, rfl, rfl, rfl, trivial⟩, trivial⟩, rfl⟩, ?_⟩
              rintro ⟨v317, v318⟩ (_ | k24) h
              · exact ns h
              unfold m_impl_SgOK_l24 at h
              refine .inl ?_
              refine .inl ?_
              refine And.intro (fun c => ?_) (fun c => ?_)
              · replace h := cT h c
                refine .inl ?_
                refine .inl ?_
                obtain ⟨x472, hx472, h⟩ := bsm h
                refine And.intro (ix0 hx472) (Exists.intro _ (And.intro (gm (ixg hx472)) (And.intro rfl ?_)))
                refine .inl ?_
                obtain ⟨r696, hr696, h⟩ := bsm h
                refine callW (args' := [.p (I x472.from_), .ptr 0 0]) (τ0 := [.box 65 [.p (I v318.scopes_), .p (.lst (v318.edges_.map gSEdge.enc)), .p (.lst (v318.decls_.map gSpot.enc)), .p (.lst (v318.refs_.map gSpot.enc))]]) [0] [] (c_impl_SgOK_1 n x472.from_ v318 _ hr696) (fun K hk => hk) rfl ⟨rfl, rfl, trivial⟩ ⟨⟨rfl, rfl, rfl, rfl, rfl, trivial⟩, trivial⟩ rfl ?_
                rintro rs τ' hl' ⟨rfl, rfl⟩
                refine And.intro (fun c => ?_) (fun c => ?_)
                · replace h := cF h c
                  refine And.intro (fun _ => ?_) (fun c => absurd c (by decide))
                  refine And.intro (fun _ => ?_) (fun c => absurd c (by decide))
                  refine And.intro (fun _ => ?_) (fun c => absurd c (by decide))
                  obtain ⟨r697, hr697, h⟩ := bsm h
                  refine callW (args' := [.p (I x472.to_), .ptr 0 0]) (τ0 := [.box 65 [.p (I r696.2.scopes_), .p (.lst (r696.2.edges_.map gSEdge.enc)), .p (.lst (r696.2.decls_.map gSpot.enc)), .p (.lst (r696.2.refs_.map gSpot.enc))]]) [0] [] (c_impl_SgOK_1 n x472.to_ r696.2 _ hr697) (fun K hk => hk) rfl ⟨rfl, rfl, trivial⟩ ⟨⟨rfl, rfl, rfl, rfl, rfl, trivial⟩, trivial⟩ rfl ?_
                  rintro rs τ' hl' ⟨rfl, rfl⟩
                  refine And.intro (fun _ => ?_) (fun c => absurd c (by decide))
                  refine And.intro (fun c => absurd c (by decide)) (fun _ => ?_)
                  refine And.intro (fun c => ?_) (fun c => ?_)
                  · replace h := cF h c
                    refine And.intro (fun _ => ?_) (fun c => absurd c (by decide))
                    refine And.intro (fun _ => ?_) (fun c => absurd c (by decide))
                    refine And.intro (fun _ => ?_) (fun c => absurd c (by decide))
                    refine And.intro (fun c => ?_) (fun c => ?_)
                    · replace h := cT h c
                      refine And.intro (fun _ => ?_) (fun c => absurd c (by decide))
                      refine And.intro (fun _ => ?_) (fun c => absurd c (by decide))
                      refine And.intro (fun _ => ?_) (fun c => absurd c (by decide))
                      refine And.intro (fun _ => ?_) (fun c => absurd c (by decide))
                      refine And.intro (fun c => absurd c (by decide)) (fun _ => ?_)
                      refine And.intro (fun c => ?_) (fun c => ?_)
                      · replace h := cT h c
                        refine .inl ?_
                        replace h := Option.some.inj h
                        subst h
                        exact ⟨[.p (B false)], [], ⟨[], ⟨rfl, trivial⟩, trivial, rfl⟩, rfl, rfl, rfl⟩
                      · replace h := cF h c
                        exact ⟨((wr .i64 (v317 + 1)), r697.2), k24, h, Nat.lt_succ_self _, [], ⟨rfl, rfl, rfl, rfl, rfl, trivial⟩, ⟨⟨rfl, rfl, rfl, rfl, rfl, trivial⟩, trivial⟩, rfl⟩
                    · replace h := cF h c
                      refine And.intro (fun c => absurd c (by decide)) (fun _ => ?_)
                      refine And.intro (fun c => absurd c (by decide)) (fun _ => ?_)
                      refine And.intro (fun _ => ?_) (fun c => absurd c (by decide))
                      refine And.intro (fun c => absurd c (by decide)) (fun _ => ?_)
                      refine And.intro (fun c => absurd c (by decide)) (fun _ => ?_)
                      refine And.intro (fun c => absurd c (by decide)) (fun _ => ?_)
                      exact ⟨((wr .i64 (v317 + 1)), r697.2), k24, h, Nat.lt_succ_self _, [], ⟨rfl, rfl, rfl, rfl, rfl, trivial⟩, ⟨⟨rfl, rfl, rfl, rfl, rfl, trivial⟩, trivial⟩, rfl⟩
                  · replace h := cT h c
                    refine And.intro (fun c => absurd c (by decide)) (fun _ => ?_)
                    refine And.intro (fun c => absurd c (by decide)) (fun _ => ?_)
                    refine And.intro (fun c => absurd c (by decide)) (fun _ => ?_)
                    refine And.intro (fun c => absurd c (by decide)) (fun _ => ?_)
                    refine And.intro (fun _ => ?_) (fun c => absurd c (by decide))
                    refine And.intro (fun _ => ?_) (fun c => absurd c (by decide))
                    refine .inl ?_
                    replace h := Option.some.inj h
                    subst h
                    exact ⟨[.p (B false)], [], ⟨[], ⟨rfl, trivial⟩, trivial, rfl⟩, rfl, rfl, rfl⟩
                · replace h := cT h c
                  refine And.intro (fun c => absurd c (by decide)) (fun _ => ?_)
                  refine And.intro (fun c => absurd c (by decide)) (fun _ => ?_)
                  refine And.intro (fun c => absurd c (by decide)) (fun _ => ?_)
                  refine And.intro (fun c => absurd c (by decide)) (fun _ => ?_)
                  refine And.intro (fun _ => ?_) (fun c => absurd c (by decide))
                  refine And.intro (fun c => absurd c (by decide)) (fun _ => ?_)
                  refine And.intro (fun c => absurd c (by decide)) (fun _ => ?_)
                  refine And.intro (fun c => absurd c (by decide)) (fun _ => ?_)
                  refine And.intro (fun c => absurd c (by decide)) (fun _ => ?_)
                  refine And.intro (fun c => absurd c (by decide)) (fun _ => ?_)
                  refine And.intro (fun _ => ?_) (fun c => absurd c (by decide))
                  refine And.intro (fun _ => ?_) (fun c => absurd c (by decide))
                  refine .inl ?_
                  replace h := Option.some.inj h
                  subst h
                  exact ⟨[.p (B false)], [], ⟨[], ⟨rfl, trivial⟩, trivial, rfl⟩, rfl, rfl, rfl⟩
              · replace h := cF h c
                exact ⟨v318, h, [], ⟨rfl, rfl, trivial⟩, ⟨⟨rfl, rfl, rfl, rfl, rfl, trivial⟩, trivial⟩, rfl⟩
            · rintro v254 h
              unfold m_impl_SgOK_j2 at h
              refine .inr ⟨Unit, fun x => ([], []), fun x => m_impl_SgOK_j13 = some r, ?_, ?_⟩
              · refine .inl ?_
                refine And.intro (show fits _ _ from ⟨⟨rfl, rfl⟩, ⟨⟨rfl, rfl⟩, trivial⟩⟩) ?_
                refine ⟨Int × gSg, fun x => ([(3, .fn 115 [.ptr 0 0]), (71, .row 1 1 0 (([v254.decls_, v254.refs_] : List (List gSpot)).length)), (72, .p (I ((2 : Nat) : Int))), (73, .p (I x.1))], [.box 65 [.p (I x.2.scopes_), .p (.lst (x.2.edges_.map gSEdge.enc)), .p (.lst (x.2.decls_.map gSpot.enc)), .p (.lst (x.2.refs_.map gSpot.enc))], .row 63 1 (([v254.decls_, v254.refs_] : List (List gSpot)).map (eL gSpot.enc))]), fun x k => m_impl_SgOK_l20 n v254 k x.1 x.2 = some r, ⟨(0, v254), n, h, [], ⟨rfl, (congrArg (AV.row 1 1 0) (show ([v254.decls_, v254.refs_] : List (List gSpot)).length = 2 by simp)), rfl, rfl, trivial⟩, ⟨⟨rfl, rfl, rfl, rfl, rfl, trivial⟩, (congrArg (Bk.row 63 1) (show ([v254.decls_, v254.refs_] : List (List gSpot)).map (eL gSpot.enc) = [.lst (v254.decls_.map gSpot.enc), .lst (v254.refs_.map gSpot.enc)] by simp)), trivial⟩, rfl⟩, ?_⟩
                rintro ⟨v295, v296⟩ (_ | k20) h
                · exact ns h
                unfold m_impl_SgOK_l20 at h
                refine .inl ?_
                refine .inl ?_
                refine And.intro (fun c => ?_) (fun c => ?_)
                · replace h := cT h c
                  refine .inr ⟨gSg, fun x => ([(3, .fn 115 [.ptr 0 0]), (71, .row 1 1 0 (([v254.decls_, v254.refs_] : List (List gSpot)).length)), (72, .p (I ((2 : Nat) : Int))), (73, .p (I v295))], [.box 65 [.p (I x.scopes_), .p (.lst (x.edges_.map gSEdge.enc)), .p (.lst (x.decls_.map gSpot.enc)), .p (.lst (x.refs_.map gSpot.enc))], .row 63 1 (([v254.decls_, v254.refs_] : List (List gSpot)).map (eL gSpot.enc))]), fun x => m_impl_SgOK_j22 v295 (m_impl_SgOK_l20 n v254 k20) x = some r, ?_, ?_⟩
                  · refine .inl ?_
                    obtain ⟨x466, hx466, h⟩ := bsm h
                    refine And.intro (by have q := ixr hx466; simp at q ⊢; omega) ?_
                    refine Exists.intro _ (And.intro (gz (gm (ixg hx466))) ?_)
                    refine .inl ?_
                    refine ⟨Int × gSg, fun x => ([(3, .fn 115 [.ptr 0 0]), (71, .row 1 1 0 (([v254.decls_, v254.refs_] : List (List gSpot)).length)), (72, .p (I ((2 : Nat) : Int))), (73, .p (I v295)), (77, .p (.lst (x466.map gSpot.enc))), (78, .p (I ((x466.map gSpot.enc).length : Int))), (79, .p (I x.1))], [.box 65 [.p (I x.2.scopes_), .p (.lst (x.2.edges_.map gSEdge.enc)), .p (.lst (x.2.decls_.map gSpot.enc)), .p (.lst (x.2.refs_.map gSpot.enc))], .row 63 1 (([v254.decls_, v254.refs_] : List (List gSpot)).map (eL gSpot.enc))]), fun x k => m_impl_SgOK_l23 n v295 (m_impl_SgOK_l20 n v254 k20) x466 k x.1 x.2 = some r, ⟨(0, v296), n, h, [], ⟨rfl, rfl, rfl, rfl, rfl, rfl, rfl, trivial⟩, ⟨⟨rfl, rfl, rfl, rfl, rfl, trivial⟩, rfl, trivial⟩, rfl⟩, ?_⟩
                    rintro ⟨v313, v314⟩ (_ | k23) h
                    · exact ns h
                    unfold m_impl_SgOK_l23 at h
                    refine .inl ?_
                    refine .inl ?_
                    refine And.intro (fun c => ?_) (fun c => ?_)
                    · replace h := cT h c
                      refine .inl ?_
                      refine .inl ?_
                      obtain ⟨x469, hx469, h⟩ := bsm h
                      refine And.intro (ix0 hx469) (Exists.intro _ (And.intro (gm (ixg hx469)) (And.intro rfl ?_)))
                      refine .inl ?_
                      obtain ⟨r690, hr690, h⟩ := bsm h
                      refine callW (args' := [.p (I x469.scope_), .ptr 0 0]) (τ0 := [.box 65 [.p (I v314.scopes_), .p (.lst (v314.edges_.map gSEdge.enc)), .p (.lst (v314.decls_.map gSpot.enc)), .p (.lst (v314.refs_.map gSpot.enc))]]) [0] [] (c_impl_SgOK_1 n x469.scope_ v314 _ hr690) (fun K hk => hk) rfl ⟨rfl, rfl, trivial⟩ ⟨⟨rfl, rfl, rfl, rfl, rfl, trivial⟩, trivial⟩ rfl ?_
                      rintro rs τ' hl' ⟨rfl, rfl⟩
                      refine And.intro (fun c => ?_) (fun c => ?_)
                      · replace h := cF h c
                        refine And.intro (fun _ => ?_) (fun c => absurd c (by decide))
                        refine And.intro (fun _ => ?_) (fun c => absurd c (by decide))
                        obtain ⟨r691, hr691, h⟩ := bsm h
                        refine callA (c_impl_nameOK n x469.name_ _ hr691) ?_
                        refine And.intro (fun _ => ?_) (fun c => absurd c (by decide))
                        refine And.intro (fun c => absurd c (by decide)) (fun _ => ?_)
                        refine And.intro (fun c => ?_) (fun c => ?_)
                        · replace h := cT h c
                          refine .inl ?_
                          replace h := Option.some.inj h
                          subst h
                          exact ⟨[.p (B false)], [], ⟨[], ⟨rfl, trivial⟩, trivial, rfl⟩, rfl, rfl, rfl⟩
                        · replace h := cF h c
                          exact ⟨((wr .i64 (v313 + 1)), r690.2), k23, h, Nat.lt_succ_self _, [], ⟨rfl, rfl, rfl, rfl, rfl, rfl, rfl, trivial⟩, ⟨⟨rfl, rfl, rfl, rfl, rfl, trivial⟩, rfl, trivial⟩, rfl⟩
                      · replace h := cT h c
                        refine And.intro (fun c => absurd c (by decide)) (fun _ => ?_)
                        refine And.intro (fun c => absurd c (by decide)) (fun _ => ?_)
                        refine And.intro (fun c => absurd c (by decide)) (fun _ => ?_)
                        refine And.intro (fun _ => ?_) (fun c => absurd c (by decide))
                        refine And.intro (fun _ => ?_) (fun c => absurd c (by decide))
                        refine .inl ?_
                        replace h := Option.some.inj h
                        subst h
                        exact ⟨[.p (B false)], [], ⟨[], ⟨rfl, trivial⟩, trivial, rfl⟩, rfl, rfl, rfl⟩
                    · replace h := cF h c
                      exact ⟨v314, h, [], ⟨rfl, rfl, rfl, rfl, trivial⟩, ⟨⟨rfl, rfl, rfl, rfl, rfl, trivial⟩, rfl, trivial⟩, rfl⟩
                  · rintro v312 h
                    unfold m_impl_SgOK_j22 at h
                    exact ⟨((wr .i64 (v295 + 1)), v312), k20, h, Nat.lt_succ_self _, [], ⟨rfl, rfl, rfl, rfl, trivial⟩, ⟨⟨rfl, rfl, rfl, rfl, rfl, trivial⟩, rfl, trivial⟩, rfl⟩
                · replace h := cF h c
                  exact ⟨(), h, [], trivial, trivial, rfl⟩
              · rintro _ h
                unfold m_impl_SgOK_j13 at h
                refine .inl ?_
                replace h := Option.some.inj h
                subst h
                exact ⟨[.p (B true)], [], ⟨[], ⟨rfl, trivial⟩, trivial, rfl⟩, rfl, rfl, rfl⟩
        · replace h := cT h c
          refine And.intro (fun c => absurd c (by decide)) (fun _ => ?_)
          refine And.intro (fun c => absurd c (by decide)) (fun _ => ?_)
          refine And.intro (fun c => absurd c (by decide)) (fun _ => ?_)
          refine And.intro (fun _ => ?_) (fun c => absurd c (by decide))
          refine And.intro (fun _ => ?_) (fun c => absurd c (by decide))
          refine .inl ?_
          replace h := Option.some.inj h
          subst h
          exact ⟨[.p (B false)], [], ⟨[], ⟨rfl, trivial⟩, trivial, rfl⟩, rfl, rfl, rfl⟩
      · replace h := cT h c
        refine And.intro (fun c => absurd c (by decide)) (fun _ => ?_)
        refine And.intro (fun c => absurd c (by decide)) (fun _ => ?_)
        refine And.intro (fun c => absurd c (by decide)) (fun _ => ?_)
        refine And.intro (fun _ => ?_) (fun c => absurd c (by decide))
        refine And.intro (fun c => absurd c (by decide)) (fun _ => ?_)
        refine And.intro (fun c => absurd c (by decide)) (fun _ => ?_)
        refine And.intro (fun c => absurd c (by decide)) (fun _ => ?_)
        refine And.intro (fun c => absurd c (by decide)) (fun _ => ?_)
        refine And.intro (fun _ => ?_) (fun c => absurd c (by decide))
        refine And.intro (fun _ => ?_) (fun c => absurd c (by decide))
        refine .inl ?_
        replace h := Option.some.inj h
        subst h
        exact ⟨[.p (B false)], [], ⟨[], ⟨rfl, trivial⟩, trivial, rfl⟩, rfl, rfl, rfl⟩
    · replace h := cT h c
      refine And.intro (fun c => absurd c (by decide)) (fun _ => ?_)
      refine And.intro (fun c => absurd c (by decide)) (fun _ => ?_)
      refine And.intro (fun c => absurd c (by decide)) (fun _ => ?_)
      refine And.intro (fun _ => ?_) (fun c => absurd c (by decide))
      refine And.intro (fun c => absurd c (by decide)) (fun _ => ?_)
      refine And.intro (fun c => absurd c (by decide)) (fun _ => ?_)
      refine And.intro (fun c => absurd c (by decide)) (fun _ => ?_)
      refine And.intro (fun c => absurd c (by decide)) (fun _ => ?_)
      refine And.intro (fun _ => ?_) (fun c => absurd c (by decide))
      refine And.intro (fun c => absurd c (by decide)) (fun _ => ?_)
      refine And.intro (fun c => absurd c (by decide)) (fun _ => ?_)
      refine And.intro (fun c => absurd c (by decide)) (fun _ => ?_)
      refine And.intro (fun c => absurd c (by decide)) (fun _ => ?_)
      refine And.intro (fun _ => ?_) (fun c => absurd c (by decide))
      refine And.intro (fun _ => ?_) (fun c => absurd c (by decide))
      refine .inl ?_
      replace h := Option.some.inj h
      subst h
      exact ⟨[.p (B false)], [], ⟨[], ⟨rfl, trivial⟩, trivial, rfl⟩, rfl, rfl, rfl⟩
  · replace h := cT h c
    refine And.intro (fun c => absurd c (by decide)) (fun _ => ?_)
    refine And.intro (fun c => absurd c (by decide)) (fun _ => ?_)
    refine And.intro (fun _ => ?_) (fun c => absurd c (by decide))
    refine And.intro (fun c => absurd c (by decide)) (fun _ => ?_)
    refine And.intro (fun c => absurd c (by decide)) (fun _ => ?_)
    refine And.intro (fun c => absurd c (by decide)) (fun _ => ?_)
    refine And.intro (fun c => absurd c (by decide)) (fun _ => ?_)
    refine And.intro (fun _ => ?_) (fun c => absurd c (by decide))
    refine And.intro (fun c => absurd c (by decide)) (fun _ => ?_)
    refine And.intro (fun c => absurd c (by decide)) (fun _ => ?_)
    refine And.intro (fun c => absurd c (by decide)) (fun _ => ?_)
    refine And.intro (fun c => absurd c (by decide)) (fun _ => ?_)
    refine And.intro (fun _ => ?_) (fun c => absurd c (by decide))
    refine And.intro (fun c => absurd c (by decide)) (fun _ => ?_)
    refine And.intro (fun c => absurd c (by decide)) (fun _ => ?_)
    refine And.intro (fun c => absurd c (by decide)) (fun _ => ?_)
    refine And.intro (fun c => absurd c (by decide)) (fun _ => ?_)
    refine And.intro (fun _ => ?_) (fun c => absurd c (by decide))
    refine And.intro (fun _ => ?_) (fun c => absurd c (by decide))
    refine .inl ?_
    replace h := Option.some.inj h
    subst h
    exact ⟨[.p (B false)], [], ⟨[], ⟨rfl, trivial⟩, trivial, rfl⟩, rfl, rfl, rfl⟩
def m_impl_Sg_steps_1_j1 (a59 : Int) (a60 : Int) (a61 : List Int) (v329 : Bool) : Option (List Int) :=
  bif v329 then (
    (ix a61 a59).bind fun x484 =>
    some (a61.set a59.toNat a60))
  else (
    some a61)
def m_impl_Sg_steps_1 (n : Nat) (a59 : Int) (a60 : Int) (a61 : List Int) : Option (List Int) :=
  (ix a61 a59).bind fun x485 =>
  bif (decide (x485 < 0)) then (
    m_impl_Sg_steps_1_j1 a59 a60 a61 true)
  else (
    (ix a61 a59).bind fun x486 =>
    m_impl_Sg_steps_1_j1 a59 a60 a61 (decide (a60 < x486)))
theorem c_impl_Sg_steps_1 (n : Nat) (a59 : Int) (a60 : Int) (a61 : List Int) (r : List Int) (h : m_impl_Sg_steps_1 n a59 a60 a61 = some r) : Sy.Fn Try.prog 221 [.p (I a59), .p (I a60), .ptr 0 0] [.box 49 [.row 1 1 0 a61.length], .row 3 1 (a61.map I)] (fun rs τ' => rs = [] ∧ τ' = [.box 49 [.row 1 1 0 r.length], .row 3 1 (r.map I)]) := by
  unfold m_impl_Sg_steps_1 at h
  refine fn_introJ Try.func221 rfl rfl rfl ?_
  refine .inr ⟨Bool, fun x => ([(0, .p (I a59)), (1, .p (I a60)), (2, .ptr 0 0), (17, .p (B x))], [.box 49 [.row 1 1 0 a61.length], .row 3 1 (a61.map I)]), fun x => m_impl_Sg_steps_1_j1 a59 a60 a61 x = some r, ?_, ?_⟩
  · obtain ⟨x485, hx485, h⟩ := bsm h
    refine And.intro (ixr hx485) ?_
    refine Exists.intro _ (And.intro (gz (gm (ixg hx485))) ?_)
    refine And.intro (fun c => ?_) (fun c => ?_)
    · replace h := cF h c
      refine And.intro (fun _ => ?_) (fun c => absurd c (by decide))
      refine And.intro (fun _ => ?_) (fun c => absurd c (by decide))
      refine And.intro (fun _ => ?_) (fun c => absurd c (by decide))
      obtain ⟨x486, hx486, h⟩ := bsm h
      refine And.intro (ixr hx486) ?_
      refine And.intro (fun _ => ?_) (fun c => absurd c (by decide))
      refine Exists.intro _ (And.intro (gz (gm (ixg hx486))) ?_)
      refine And.intro (fun _ => ?_) (fun c => absurd c (by decide))
      refine And.intro (fun c => absurd c (by decide)) (fun _ => ?_)
      exact ⟨(decide (a60 < x486)), h, [], ⟨rfl, rfl, rfl, rfl, trivial⟩, ⟨⟨rfl, rfl, trivial⟩, rfl, trivial⟩, rfl⟩
    · replace h := cT h c
      refine And.intro (fun c => absurd c (by decide)) (fun _ => ?_)
      refine And.intro (fun c => absurd c (by decide)) (fun _ => ?_)
      refine And.intro (fun c => absurd c (by decide)) (fun _ => ?_)
      refine And.intro (fun c => absurd c (by decide)) (fun _ => ?_)
      refine And.intro (fun c => absurd c (by decide)) (fun _ => ?_)
      refine And.intro (fun _ => ?_) (fun c => absurd c (by decide))
      exact ⟨true, h, [], ⟨rfl, rfl, rfl, rfl, trivial⟩, ⟨⟨rfl, rfl, trivial⟩, rfl, trivial⟩, rfl⟩
  · rintro v329 h
    unfold m_impl_Sg_steps_1_j1 at h
    refine And.intro (fun c => ?_) (fun c => ?_)
    · replace h := cT h c
      obtain ⟨x484, hx484, h⟩ := bsm h
      refine And.intro (ixr hx484) ?_
      refine And.intro ⟨(by have q := ixl hx484; simp at q ⊢; omega), ⟨rfl, rfl⟩, rfl⟩ ?_
      replace h := Option.some.inj h
      subst h
      exact ⟨[], [.box 49 [.row 1 1 0 (a61.set a59.toNat a60).length], .row 3 1 ((a61.set a59.toNat a60).map I)], ⟨[], trivial, ⟨⟨rfl, (congrArg (AV.row 1 1 0) (show (a61.set a59.toNat a60).length = a61.length by simp)), trivial⟩, (congrArg (Bk.row 3 1) (show (a61.set a59.toNat a60).map I = (a61.map I).set (0 + a59.toNat) (I a60) by simp)), trivial⟩, rfl⟩, rfl, rfl, rfl⟩
    · replace h := cF h c
      replace h := Option.some.inj h
      subst h
      exact ⟨[], [.box 49 [.row 1 1 0 a61.length], .row 3 1 (a61.map I)], ⟨[], trivial, ⟨⟨rfl, rfl, trivial⟩, rfl, trivial⟩, rfl⟩, rfl, rfl, rfl⟩
def m_impl_Sg_steps_j13 (v395 : List Int) : Option (List Int) :=
  some v395
def m_impl_Sg_steps_j22 (v415 : Int) (rec20 : Int → List Int → List Int → List Int → Option (List Int)) (v450 : List Int) (v451 : List Int) (v452 : List Int) : Option (List Int) :=
  rec20 (wr .i64 (v415 + 1)) v450 v451 v452
def m_impl_Sg_steps_l23 (n : Nat) (a57 : gSg) (v415 : Int) (rec20 : Int → List Int → List Int → List Int → Option (List Int)) (x771 : Int) : Nat → Int → List Int → List Int → List Int → Option (List Int)
  | 0, _, _, _, _ => none
  | k23 + 1, v453, v454, v455, v456 =>
    bif (decide (v453 < ((a57.edges_.map gSEdge.enc).length : Int))) then (
      (ix a57.edges_ v453).bind fun x789 =>
      bif (x789.from_ != x771) then (
        (m_impl_Sg_steps_l23 n a57 v415 rec20 x771 k23) (wr .i64 (v453 + 1)) v454 v455 v456)
      else (
        bif (x789.kind_ == 2) then (
          (ix v454 x771).bind fun x791 =>
          (m_impl_Sg_steps_1 n x789.to_ (wr .i64 (x791 + 1)) v456).bind fun r781 =>
          (m_impl_Sg_steps_l23 n a57 v415 rec20 x771 k23) (wr .i64 (v453 + 1)) v454 v455 r781)
        else (
          (ix v454 x789.to_).bind fun x792 =>
          bif (decide (x792 < 0)) then (
            (ix v454 x771).bind fun x795 =>
            (ix v454 x789.to_).bind fun x796 =>
            gp (v455.length + ([x789.to_] : List Int).length ≤ 68719476736) <|
            (m_impl_Sg_steps_l23 n a57 v415 rec20 x771 k23) (wr .i64 (v453 + 1)) (v454.set x789.to_.toNat (wr .i64 (x795 + 2))) (v455 ++ [x789.to_]) v456)
          else (
            (m_impl_Sg_steps_l23 n a57 v415 rec20 x771 k23) (wr .i64 (v453 + 1)) v454 v455 v456))))
    else (
      m_impl_Sg_steps_j22 v415 rec20 v454 v455 v456)
def m_impl_Sg_steps_l20 (n : Nat) (a57 : gSg) : Nat → Int → List Int → List Int → List Int → Option (List Int)
  | 0, _, _, _, _ => none
  | k20 + 1, v415, v416, v417, v418 =>
    bif (decide (v415 < ((v417.length : Nat) : Int))) then (
      (ix v417 v415).bind fun x771 =>
      (ix v416 x771).bind fun x772 =>
      (m_impl_Sg_steps_1 n x771 x772 v418).bind fun r775 =>
      m_impl_Sg_steps_l23 n a57 v415 (m_impl_Sg_steps_l20 n a57 k20) x771 n 0 v416 v417 r775)
    else (
      m_impl_Sg_steps_j13 v418)
def m_impl_Sg_steps_j2 (n : Nat) (a57 : gSg) (a58 : Int) (v327 : List Int) (v328 : List Int) : Option (List Int) :=
  (ix v327 a58).bind fun x479 =>
  m_impl_Sg_steps_l20 n a57 n 0 (v327.set a58.toNat 0) [a58] v328
def m_impl_Sg_steps_l24 (n : Nat) (a57 : gSg) (a58 : Int) : Nat → Int → List Int → List Int → Option (List Int)
  | 0, _, _, _ => none
  | k24 + 1, v461, v462, v463 =>
    bif (decide (v461 < ((a57.scopes_.toNat : Nat) : Int))) then (
      (ix v463 v461).bind fun x801 =>
      (ix v462 v461).bind fun x802 =>
      (m_impl_Sg_steps_l24 n a57 a58 k24) (wr .i64 (v461 + 1)) (v462.set v461.toNat (-1)) (v463.set v461.toNat (-1)))
    else (
      m_impl_Sg_steps_j2 n a57 a58 v462 v463)
def m_impl_Sg_steps (n : Nat) (a57 : gSg) (a58 : Int) : Option (List Int) :=
  gp (0 ≤ a57.scopes_ ∧ a57.scopes_ ≤ a57.scopes_ ∧ a57.scopes_ ≤ 68719476736) <|
  gp (0 ≤ a57.scopes_ ∧ a57.scopes_ ≤ a57.scopes_ ∧ a57.scopes_ ≤ 68719476736) <|
  m_impl_Sg_steps_l24 n a57 a58 n 0 (List.replicate a57.scopes_.toNat 0) (List.replicate a57.scopes_.toNat 0)
theorem c_impl_Sg_steps (n : Nat) (a57 : gSg) (a58 : Int) (r : List Int) (h : m_impl_Sg_steps n a57 a58 = some r) : FnP Try.prog 183 [a57.enc, I a58] [.lst (r.map I)] := by
  unfold m_impl_Sg_steps at h
  refine fn_introJ Try.func183 rfl rfl rfl ?_
  refine .inl ?_
  refine .inl ?_
  obtain ⟨g38, h⟩ := gpT h
  refine And.intro ⟨rfl, g38.1, g38.2.1, mkfit g38.2.2 rfl, by omega⟩ ?_
  refine .inl ?_
  obtain ⟨g37, h⟩ := gpT h
  refine And.intro ⟨rfl, g37.1, g37.2.1, mkfit g37.2.2 rfl, by omega⟩ ?_
  refine .inr ⟨List Int × List Int, fun x => ([(1, .p (I a58)), (2, .ptr 0 0), (5, .ptr 1 0), (6, .row 2 1 0 x.1.length)], [.box 65 [.p (I a57.scopes_), .p (.lst (a57.edges_.map gSEdge.enc)), .p (.lst (a57.decls_.map gSpot.enc)), .p (.lst (a57.refs_.map gSpot.enc))], .box 49 [.row 3 1 0 x.2.length], .row 3 1 (x.1.map I), .row 3 1 (x.2.map I)]), fun x => m_impl_Sg_steps_j2 n a57 a58 x.1 x.2 = some r, ?_, ?_⟩
  · refine .inl ?_
    refine ⟨Int × List Int × List Int, fun x => ([(1, .p (I a58)), (2, .ptr 0 0), (5, .ptr 1 0), (6, .row 2 1 0 x.2.1.length), (21, .p (I ((a57.scopes_.toNat : Nat) : Int))), (22, .p (I x.1))], [.box 65 [.p (I a57.scopes_), .p (.lst (a57.edges_.map gSEdge.enc)), .p (.lst (a57.decls_.map gSpot.enc)), .p (.lst (a57.refs_.map gSpot.enc))], .box 49 [.row 3 1 0 x.2.2.length], .row 3 1 (x.2.1.map I), .row 3 1 (x.2.2.map I)]), fun x k => m_impl_Sg_steps_l24 n a57 a58 k x.1 x.2.1 x.2.2 = some r, ⟨(0, (List.replicate a57.scopes_.toNat 0), (List.replicate a57.scopes_.toNat 0)), n, h, [(999999, 0), (999999, 2), (999999, 3), (999999, 1)], ⟨rfl, rfl, rfl, (congrArg (AV.row 2 1 0) (show (List.replicate a57.scopes_.toNat 0).length = a57.scopes_.toNat by simp)), rfl, rfl, trivial⟩, ⟨⟨rfl, rfl, rfl, rfl, rfl, trivial⟩, ⟨rfl, (congrArg (AV.row 3 1 0) (show (List.replicate a57.scopes_.toNat 0).length = a57.scopes_.toNat by simp)), trivial⟩, (congrArg (Bk.row 3 1) (show (List.replicate a57.scopes_.toNat 0).map I = List.replicate a57.scopes_.toNat (I 0) by simp)), (congrArg (Bk.row 3 1) (show (List.replicate a57.scopes_.toNat 0).map I = List.replicate a57.scopes_.toNat (I 0) by simp)), trivial⟩, rfl⟩, ?_⟩
    rintro ⟨v461, v462, v463⟩ (_ | k24) h
    · exact ns h
    unfold m_impl_Sg_steps_l24 at h
    refine .inl ?_
    refine .inl ?_
    refine And.intro (fun c => ?_) (fun c => ?_)
    · replace h := cT h c
      refine .inl ?_
      refine .inl ?_
      obtain ⟨x801, hx801, h⟩ := bsm h
      refine And.intro (ixr hx801) ?_
      refine And.intro ⟨(by have q := ixl hx801; simp at q ⊢; omega), ⟨rfl, rfl⟩, rfl⟩ ?_
      obtain ⟨x802, hx802, h⟩ := bsm h
      refine And.intro (ixr hx802) ?_
      refine And.intro ⟨(by have q := ixl hx802; simp at q ⊢; omega), ⟨rfl, rfl⟩, rfl⟩ ?_
      exact ⟨((wr .i64 (v461 + 1)), (v462.set v461.toNat (-1)), (v463.set v461.toNat (-1))), k24, h, Nat.lt_succ_self _, [], ⟨rfl, rfl, rfl, (congrArg (AV.row 2 1 0) (show (v462.set v461.toNat (-1)).length = v462.length by simp)), rfl, rfl, trivial⟩, ⟨⟨rfl, rfl, rfl, rfl, rfl, trivial⟩, ⟨rfl, (congrArg (AV.row 3 1 0) (show (v463.set v461.toNat (-1)).length = v463.length by simp)), trivial⟩, (congrArg (Bk.row 3 1) (show (v462.set v461.toNat (-1)).map I = (v462.map I).set (0 + v461.toNat) (I (-1)) by simp)), (congrArg (Bk.row 3 1) (show (v463.set v461.toNat (-1)).map I = (v463.map I).set (0 + v461.toNat) (I (-1)) by simp)), trivial⟩, rfl⟩
    · replace h := cF h c
      exact ⟨(v462, v463), h, [], ⟨rfl, rfl, rfl, rfl, trivial⟩, ⟨⟨rfl, rfl, rfl, rfl, rfl, trivial⟩, ⟨rfl, rfl, trivial⟩, rfl, rfl, trivial⟩, rfl⟩
  · rintro ⟨v327, v328⟩ h
    unfold m_impl_Sg_steps_j2 at h
    refine .inl ?_
    refine .inl ?_
    obtain ⟨x479, hx479, h⟩ := bsm h
    refine And.intro (ixr hx479) ?_
    refine And.intro ⟨(by have q := ixl hx479; simp at q ⊢; omega), ⟨rfl, rfl⟩, rfl⟩ ?_
    refine .inl ?_
    refine And.intro (show fits _ _ from ⟨⟨rfl, rfl⟩, trivial⟩) ?_
    refine .inr ⟨List Int, fun x => ([(5, .ptr 0 0)], [.box 49 [.row 1 1 0 x.length], .row 3 1 (x.map I)]), fun x => m_impl_Sg_steps_j13 x = some r, ?_, ?_⟩
    · refine .inl ?_
      refine ⟨Int × List Int × List Int × List Int, fun x => ([(2, .ptr 0 0), (5, .ptr 1 0), (6, .row 2 1 0 x.2.1.length), (8, .fn 221 [.ptr 1 0]), (9, .row 3 1 0 x.2.2.1.length), (10, .p (I x.1))], [.box 65 [.p (I a57.scopes_), .p (.lst (a57.edges_.map gSEdge.enc)), .p (.lst (a57.decls_.map gSpot.enc)), .p (.lst (a57.refs_.map gSpot.enc))], .box 49 [.row 4 1 0 x.2.2.2.length], .row 3 1 (x.2.1.map I), .row 3 1 (x.2.2.1.map I), .row 3 1 (x.2.2.2.map I)]), fun x k => m_impl_Sg_steps_l20 n a57 k x.1 x.2.1 x.2.2.1 x.2.2.2 = some r, ⟨(0, (v327.set a58.toNat 0), [a58], v328), n, h, [(999999, 0), (999999, 1), (999999, 2), (999999, 4), (999999, 3)], ⟨rfl, rfl, (congrArg (AV.row 2 1 0) (show (v327.set a58.toNat 0).length = v327.length by simp)), rfl, (congrArg (AV.row 3 1 0) (show [a58].length = 1 by simp)), rfl, trivial⟩, ⟨⟨rfl, rfl, rfl, rfl, rfl, trivial⟩, ⟨rfl, rfl, trivial⟩, (congrArg (Bk.row 3 1) (show (v327.set a58.toNat 0).map I = (v327.map I).set (0 + a58.toNat) (I 0) by simp)), (congrArg (Bk.row 3 1) (show [a58].map I = [I a58] by simp)), rfl, trivial⟩, rfl⟩, ?_⟩
      rintro ⟨v415, v416, v417, v418⟩ (_ | k20) h
      · exact ns h
      unfold m_impl_Sg_steps_l20 at h
      refine .inl ?_
      refine .inl ?_
      refine And.intro (fun c => ?_) (fun c => ?_)
      · replace h := cT h c
        refine .inr ⟨List Int × List Int × List Int, fun x => ([(2, .ptr 0 0), (5, .ptr 1 0), (6, .row 2 1 0 x.1.length), (8, .fn 221 [.ptr 1 0]), (9, .row 3 1 0 x.2.1.length), (10, .p (I v415))], [.box 65 [.p (I a57.scopes_), .p (.lst (a57.edges_.map gSEdge.enc)), .p (.lst (a57.decls_.map gSpot.enc)), .p (.lst (a57.refs_.map gSpot.enc))], .box 49 [.row 4 1 0 x.2.2.length], .row 3 1 (x.1.map I), .row 3 1 (x.2.1.map I), .row 3 1 (x.2.2.map I)]), fun x => m_impl_Sg_steps_j22 v415 (m_impl_Sg_steps_l20 n a57 k20) x.1 x.2.1 x.2.2 = some r, ?_, ?_⟩
        · refine .inl ?_
          obtain ⟨x771, hx771, h⟩ := bsm h
          refine And.intro (ixr hx771) ?_
          refine Exists.intro _ (And.intro (gz (gm (ixg hx771))) ?_)
          refine .inl ?_
          obtain ⟨x772, hx772, h⟩ := bsm h
          refine And.intro (ixr hx772) ?_
          refine Exists.intro _ (And.intro (gz (gm (ixg hx772))) ?_)
          obtain ⟨r775, hr775, h⟩ := bsm h
          refine callW (args' := [.p (I x771), .p (I x772), .ptr 0 0]) (τ0 := [.box 49 [.row 1 1 0 v418.length], .row 3 1 (v418.map I)]) [1, 4] [] (c_impl_Sg_steps_1 n x771 x772 v418 _ hr775) (fun K hk => hk) rfl ⟨rfl, rfl, rfl, trivial⟩ ⟨⟨rfl, rfl, trivial⟩, rfl, trivial⟩ rfl ?_
          rintro rs τ' hl' ⟨rfl, rfl⟩
          refine .inl ?_
          refine ⟨Int × List Int × List Int × List Int, fun x => ([(2, .ptr 0 0), (5, .ptr 1 0), (6, .row 2 1 0 x.2.1.length), (8, .fn 221 [.ptr 1 0]), (9, .row 3 1 0 x.2.2.1.length), (10, .p (I v415)), (11, .p (I x771)), (56, .p (.lst (a57.edges_.map gSEdge.enc))), (57, .p (I ((a57.edges_.map gSEdge.enc).length : Int))), (58, .p (I x.1))], [.box 65 [.p (I a57.scopes_), .p (.lst (a57.edges_.map gSEdge.enc)), .p (.lst (a57.decls_.map gSpot.enc)), .p (.lst (a57.refs_.map gSpot.enc))], .box 49 [.row 4 1 0 x.2.2.2.length], .row 3 1 (x.2.1.map I), .row 3 1 (x.2.2.1.map I), .row 3 1 (x.2.2.2.map I)]), fun x k => m_impl_Sg_steps_l23 n a57 v415 (m_impl_Sg_steps_l20 n a57 k20) x771 k x.1 x.2.1 x.2.2.1 x.2.2.2 = some r, ⟨(0, v416, v417, r775), n, h, [], ⟨rfl, rfl, rfl, rfl, rfl, rfl, rfl, rfl, rfl, rfl, trivial⟩, ⟨⟨rfl, rfl, rfl, rfl, rfl, trivial⟩, ⟨rfl, rfl, trivial⟩, rfl, rfl, rfl, trivial⟩, rfl⟩, ?_⟩
          rintro ⟨v453, v454, v455, v456⟩ (_ | k23) h
          · exact ns h
          unfold m_impl_Sg_steps_l23 at h
          refine .inl ?_
          refine .inl ?_
          refine And.intro (fun c => ?_) (fun c => ?_)
          · replace h := cT h c
            refine .inl ?_
            refine .inl ?_
            obtain ⟨x789, hx789, h⟩ := bsm h
            refine And.intro (ix0 hx789) (Exists.intro _ (And.intro (gm (ixg hx789)) (And.intro rfl ?_)))
            refine .inl ?_
            refine .inl ?_
            refine And.intro (fun c => ?_) (fun c => ?_)
            · replace h := cT h c
              exact ⟨((wr .i64 (v453 + 1)), v454, v455, v456), k23, h, Nat.lt_succ_self _, [], ⟨rfl, rfl, rfl, rfl, rfl, rfl, rfl, rfl, rfl, rfl, trivial⟩, ⟨⟨rfl, rfl, rfl, rfl, rfl, trivial⟩, ⟨rfl, rfl, trivial⟩, rfl, rfl, rfl, trivial⟩, rfl⟩
            · replace h := cF h c
              refine .inl ?_
              refine And.intro (fun c => ?_) (fun c => ?_)
              · replace h := cT h c
                refine ⟨[0, 1, 2, 3, 4, 5, 6, 7, 8], [1, 4], by decide +kernel, ?_⟩
                obtain ⟨x791, hx791, h⟩ := bsm h
                refine And.intro (ixr hx791) ?_
                refine Exists.intro _ (And.intro (gz (gm (ixg hx791))) ?_)
                obtain ⟨r781, hr781, h⟩ := bsm h
                refine callW (args' := [.p (I x789.to_), .p (I (wr .i64 (x791 + 1))), .ptr 0 0]) (τ0 := [.box 49 [.row 1 1 0 v456.length], .row 3 1 (v456.map I)]) [1, 4] [] (c_impl_Sg_steps_1 n x789.to_ (wr .i64 (x791 + 1)) v456 _ hr781) (fun K hk => hk) rfl ⟨rfl, rfl, rfl, trivial⟩ ⟨⟨rfl, rfl, trivial⟩, rfl, trivial⟩ rfl ?_
                rintro rs τ' hl' ⟨rfl, rfl⟩
                exact ⟨((wr .i64 (v453 + 1)), v454, v455, r781), k23, h, Nat.lt_succ_self _, [], ⟨rfl, rfl, rfl, rfl, rfl, rfl, rfl, rfl, rfl, rfl, trivial⟩, ⟨⟨rfl, rfl, rfl, rfl, rfl, trivial⟩, ⟨rfl, rfl, trivial⟩, rfl, rfl, rfl, trivial⟩, rfl⟩
              · replace h := cF h c
                refine .inl ?_
                obtain ⟨x792, hx792, h⟩ := bsm h
                refine And.intro (ixr hx792) ?_
                refine Exists.intro _ (And.intro (gz (gm (ixg hx792))) ?_)
                refine And.intro (fun c => ?_) (fun c => ?_)
                · replace h := cT h c
                  refine .inl ?_
                  refine ⟨[0, 1, 2, 3, 4, 5, 6, 7, 8, 1009], [], by decide +kernel, ?_⟩
                  obtain ⟨x795, hx795, h⟩ := bsm h
                  refine And.intro (ixr hx795) ?_
                  refine Exists.intro _ (And.intro (gz (gm (ixg hx795))) ?_)
                  obtain ⟨x796, hx796, h⟩ := bsm h
                  refine And.intro (ixr hx796) ?_
                  refine And.intro ⟨(by have q := ixl hx796; simp at q ⊢; omega), ⟨rfl, rfl⟩, rfl⟩ ?_
                  refine And.intro (show fits _ _ from ⟨⟨rfl, rfl⟩, trivial⟩) ?_
                  obtain ⟨g36, h⟩ := gpT h
                  refine Exists.intro ([I x789.to_]) (And.intro (rowN rfl rfl) ?_)
                  refine Exists.intro (v455.map I) (And.intro (rowX (rowN rfl (show v455.length = (v455.map I).length by simp)) (show fits _ _ from ⟨⟨rfl, rfl⟩, trivial⟩) (appfitJ (by first | simpa using g36 | (simp at g36 ⊢; omega)) rfl)) ?_)
                  exact ⟨((wr .i64 (v453 + 1)), (v454.set x789.to_.toNat (wr .i64 (x795 + 2))), (v455 ++ [x789.to_]), v456), k23, h, Nat.lt_succ_self _, [], ⟨rfl, rfl, (congrArg (AV.row 2 1 0) (show (v454.set x789.to_.toNat (wr .i64 (x795 + 2))).length = v454.length by simp)), rfl, (congrArg (AV.row 3 1 0) (show (v455 ++ [x789.to_]).length = (v455.length + ([I x789.to_] : List PV).length) by simp)), rfl, rfl, rfl, rfl, rfl, trivial⟩, ⟨⟨rfl, rfl, rfl, rfl, rfl, trivial⟩, ⟨rfl, rfl, trivial⟩, (congrArg (Bk.row 3 1) (show (v454.set x789.to_.toNat (wr .i64 (x795 + 2))).map I = (v454.map I).set (0 + x789.to_.toNat) (I (wr .i64 (x795 + 2))) by simp)), (congrArg (Bk.row 3 1) (show (v455 ++ [x789.to_]).map I = (v455.map I) ++ [I x789.to_] by simp)), rfl, trivial⟩, rfl⟩
                · replace h := cF h c
                  exact ⟨((wr .i64 (v453 + 1)), v454, v455, v456), k23, h, Nat.lt_succ_self _, [], ⟨rfl, rfl, rfl, rfl, rfl, rfl, rfl, rfl, rfl, rfl, trivial⟩, ⟨⟨rfl, rfl, rfl, rfl, rfl, trivial⟩, ⟨rfl, rfl, trivial⟩, rfl, rfl, rfl, trivial⟩, rfl⟩
          · replace h := cF h c
            exact ⟨(v454, v455, v456), h, [], ⟨rfl, rfl, rfl, rfl, rfl, rfl, trivial⟩, ⟨⟨rfl, rfl, rfl, rfl, rfl, trivial⟩, ⟨rfl, rfl, trivial⟩, rfl, rfl, rfl, trivial⟩, rfl⟩
        · rintro ⟨v450, v451, v452⟩ h
          unfold m_impl_Sg_steps_j22 at h
          exact ⟨((wr .i64 (v415 + 1)), v450, v451, v452), k20, h, Nat.lt_succ_self _, [], ⟨rfl, rfl, rfl, rfl, rfl, rfl, trivial⟩, ⟨⟨rfl, rfl, rfl, rfl, rfl, trivial⟩, ⟨rfl, rfl, trivial⟩, rfl, rfl, rfl, trivial⟩, rfl⟩
      · replace h := cF h c
        exact ⟨v418, h, [(999999, 1), (999999, 4)], ⟨rfl, trivial⟩, ⟨⟨rfl, rfl, trivial⟩, rfl, trivial⟩, rfl⟩
    · rintro v395 h
      unfold m_impl_Sg_steps_j13 at h
      refine .inl ?_
      refine .inl (Exists.intro _ (And.intro (rowN rfl (show v395.length = (v395.map I).length by simp)) ?_))
      replace h := Option.some.inj h
      subst h
      exact ⟨[.p (.lst (v395.map I))], [], ⟨[], ⟨rfl, trivial⟩, trivial, rfl⟩, rfl, rfl, rfl⟩
def m_impl_Sg_resolve_j14 (v484 : List Int) : Option (List Int) :=
  some v484
def m_impl_Sg_resolve_j26 (v489 : Int) (rec23 : Int → Int → List Int → Option (List Int)) (v499 : Int) (v500 : List Int) : Option (List Int) :=
  gp (v500.length + ([v489] : List Int).length ≤ 68719476736) <|
  rec23 v499 (wr .i64 (v489 + 1)) (v500 ++ [v489])
def m_impl_Sg_resolve_j27 (v488 : Int) (v489 : Int) (v490 : List Int) (rec23 : Int → Int → List Int → Option (List Int)) (x815 : Int) (v501 : Bool) : Option (List Int) :=
  bif v501 then (
    m_impl_Sg_resolve_j26 v489 rec23 x815 [])
  else (
    m_impl_Sg_resolve_j26 v489 rec23 v488 v490)
def m_impl_Sg_resolve_j24 (v488 : Int) (v489 : Int) (v490 : List Int) (rec23 : Int → Int → List Int → Option (List Int)) (x815 : Int) : Option (List Int) :=
  bif (decide (v488 < 0)) then (
    m_impl_Sg_resolve_j27 v488 v489 v490 rec23 x815 true)
  else (
    m_impl_Sg_resolve_j27 v488 v489 v490 rec23 x815 (decide (x815 < v488)))
def m_impl_Sg_resolve_l23 (a62 : gSg) (x803 : gSpot) (r782 : List Int) : Nat → Int → Int → List Int → Option (List Int)
  | 0, _, _, _ => none
  | k23 + 1, v488, v489, v490 =>
    bif (decide (v489 < ((a62.decls_.map gSpot.enc).length : Int))) then (
      (ix a62.decls_ v489).bind fun x814 =>
      (ix r782 x814.scope_).bind fun x815 =>
      bif (!decide (x814.name_ = x803.name_)) then (
        (m_impl_Sg_resolve_l23 a62 x803 r782 k23) v488 (wr .i64 (v489 + 1)) v490)
      else (
        bif (decide (x815 < 0)) then (
          (m_impl_Sg_resolve_l23 a62 x803 r782 k23) v488 (wr .i64 (v489 + 1)) v490)
        else (
          bif (decide (v488 ≥ 0)) then (
            bif (decide (x815 > v488)) then (
              (m_impl_Sg_resolve_l23 a62 x803 r782 k23) v488 (wr .i64 (v489 + 1)) v490)
            else (
              m_impl_Sg_resolve_j24 v488 v489 v490 (m_impl_Sg_resolve_l23 a62 x803 r782 k23) x815))
          else (
            m_impl_Sg_resolve_j24 v488 v489 v490 (m_impl_Sg_resolve_l23 a62 x803 r782 k23) x815))))
    else (
      m_impl_Sg_resolve_j14 v490)
def m_impl_Sg_resolve (n : Nat) (a62 : gSg) (a63 : Int) : Option (List Int) :=
  (ix a62.refs_ a63).bind fun x803 =>
  (m_impl_Sg_steps n a62 x803.scope_).bind fun r782 =>
  m_impl_Sg_resolve_l23 a62 x803 r782 n (-1) 0 []
theorem c_impl_Sg_resolve (n : Nat) (a62 : gSg) (a63 : Int) (r : List Int) (h : m_impl_Sg_resolve n a62 a63 = some r) : FnP Try.prog 105 [a62.enc, I a63] [.lst (r.map I)] := by
  unfold m_impl_Sg_resolve at h
  refine fn_introJ Try.func105 rfl rfl rfl ?_
  refine .inl ?_
  refine .inl ?_
  obtain ⟨x803, hx803, h⟩ := bsm h
  refine And.intro (ix0 hx803) (Exists.intro _ (And.intro (gm (ixg hx803)) (And.intro rfl ?_)))
  refine .inl ?_
  obtain ⟨r782, hr782, h⟩ := bsm h
  refine callA (c_impl_Sg_steps n a62 x803.scope_ _ hr782) ?_
  refine .inl ?_
  refine .inl ?_
  refine .inr ⟨List Int, fun x => ([(8, .row 0 1 0 x.length)], [.row 3 1 (x.map I)]), fun x => m_impl_Sg_resolve_j14 x = some r, ?_, ?_⟩
  · refine .inl ?_
    refine ⟨Int × Int × List Int, fun x => ([(5, .ptr 0 0), (6, .p (.lst (r782.map I))), (7, .p (I x.1)), (8, .row 1 1 0 x.2.2.length), (22, .p (.lst (a62.decls_.map gSpot.enc))), (23, .p (I ((a62.decls_.map gSpot.enc).length : Int))), (24, .p (I x.2.1))], [.box 71 [.p (I x803.scope_), .p (S x803.name_)], .row 3 1 (x.2.2.map I)]), fun x k => m_impl_Sg_resolve_l23 a62 x803 r782 k x.1 x.2.1 x.2.2 = some r, ⟨((-1), 0, []), n, h, [(999999, 1), (3, 1)], ⟨rfl, rfl, rfl, ⟨rfl, rfl⟩, rfl, rfl, rfl, trivial⟩, ⟨⟨rfl, rfl, rfl, trivial⟩, rfl, trivial⟩, rfl⟩, ?_⟩
    rintro ⟨v488, v489, v490⟩ (_ | k23) h
    · exact ns h
    unfold m_impl_Sg_resolve_l23 at h
    refine .inl ?_
    refine .inl ?_
    refine And.intro (fun c => ?_) (fun c => ?_)
    · replace h := cT h c
      refine .inl ?_
      refine .inl ?_
      obtain ⟨x814, hx814, h⟩ := bsm h
      refine And.intro (ix0 hx814) (Exists.intro _ (And.intro (gm (ixg hx814)) (And.intro rfl ?_)))
      refine .inl ?_
      obtain ⟨x815, hx815, h⟩ := bsm h
      refine And.intro (ix0 hx815) (Exists.intro _ (And.intro (gm (ixg hx815)) (And.intro rfl ?_)))
      refine .inr ⟨Unit, fun x => ([(5, .ptr 0 0), (6, .p (.lst (r782.map I))), (7, .p (I v488)), (8, .row 1 1 0 v490.length), (9, .p (I v489)), (11, .p (I x815)), (22, .p (.lst (a62.decls_.map gSpot.enc))), (23, .p (I ((a62.decls_.map gSpot.enc).length : Int))), (24, .p (I v489))], [.box 71 [.p (I x803.scope_), .p (S x803.name_)], .row 3 1 (v490.map I)]), fun x => m_impl_Sg_resolve_j24 v488 v489 v490 (m_impl_Sg_resolve_l23 a62 x803 r782 k23) x815 = some r, ?_, ?_⟩
      · refine .inl ?_
        refine And.intro (fun c => ?_) (fun c => ?_)
        · replace h := cF h c
          refine And.intro (fun _ => ?_) (fun c => absurd c (by decide))
          refine And.intro (fun c => absurd c (by decide)) (fun _ => ?_)
          refine And.intro (fun c => ?_) (fun c => ?_)
          · replace h := cF h c
            refine And.intro (fun _ => ?_) (fun c => absurd c (by decide))
            refine And.intro (fun _ => ?_) (fun c => absurd c (by decide))
            refine And.intro (fun c => ?_) (fun c => ?_)
            · replace h := cT h c
              refine And.intro (fun _ => ?_) (fun c => absurd c (by decide))
              refine And.intro (fun _ => ?_) (fun c => absurd c (by decide))
              refine And.intro (fun _ => ?_) (fun c => absurd c (by decide))
              refine And.intro (fun _ => ?_) (fun c => absurd c (by decide))
              refine And.intro (fun c => absurd c (by decide)) (fun _ => ?_)
              refine And.intro (fun c => ?_) (fun c => ?_)
              · replace h := cT h c
                exact ⟨(v488, (wr .i64 (v489 + 1)), v490), k23, h, Nat.lt_succ_self _, [], ⟨rfl, rfl, rfl, rfl, rfl, rfl, rfl, trivial⟩, ⟨⟨rfl, rfl, rfl, trivial⟩, rfl, trivial⟩, rfl⟩
              · replace h := cF h c
                exact ⟨(), h, [], ⟨rfl, rfl, rfl, rfl, rfl, rfl, rfl, rfl, rfl, trivial⟩, ⟨⟨rfl, rfl, rfl, trivial⟩, rfl, trivial⟩, rfl⟩
            · replace h := cF h c
              refine And.intro (fun c => absurd c (by decide)) (fun _ => ?_)
              refine And.intro (fun c => absurd c (by decide)) (fun _ => ?_)
              refine And.intro (fun _ => ?_) (fun c => absurd c (by decide))
              refine And.intro (fun c => absurd c (by decide)) (fun _ => ?_)
              refine And.intro (fun c => absurd c (by decide)) (fun _ => ?_)
              refine And.intro (fun c => absurd c (by decide)) (fun _ => ?_)
              exact ⟨(), h, [], ⟨rfl, rfl, rfl, rfl, rfl, rfl, rfl, rfl, rfl, trivial⟩, ⟨⟨rfl, rfl, rfl, trivial⟩, rfl, trivial⟩, rfl⟩
          · replace h := cT h c
            refine And.intro (fun c => absurd c (by decide)) (fun _ => ?_)
            refine And.intro (fun c => absurd c (by decide)) (fun _ => ?_)
            refine And.intro (fun c => absurd c (by decide)) (fun _ => ?_)
            refine And.intro (fun _ => ?_) (fun c => absurd c (by decide))
            refine And.intro (fun _ => ?_) (fun c => absurd c (by decide))
            exact ⟨(v488, (wr .i64 (v489 + 1)), v490), k23, h, Nat.lt_succ_self _, [], ⟨rfl, rfl, rfl, rfl, rfl, rfl, rfl, trivial⟩, ⟨⟨rfl, rfl, rfl, trivial⟩, rfl, trivial⟩, rfl⟩
        · replace h := cT h c
          refine And.intro (fun c => absurd c (by decide)) (fun _ => ?_)
          refine And.intro (fun _ => ?_) (fun c => absurd c (by decide))
          refine And.intro (fun c => absurd c (by decide)) (fun _ => ?_)
          refine And.intro (fun c => absurd c (by decide)) (fun _ => ?_)
          refine And.intro (fun c => absurd c (by decide)) (fun _ => ?_)
          refine And.intro (fun c => absurd c (by decide)) (fun _ => ?_)
          refine And.intro (fun _ => ?_) (fun c => absurd c (by decide))
          refine And.intro (fun _ => ?_) (fun c => absurd c (by decide))
          exact ⟨(v488, (wr .i64 (v489 + 1)), v490), k23, h, Nat.lt_succ_self _, [], ⟨rfl, rfl, rfl, rfl, rfl, rfl, rfl, trivial⟩, ⟨⟨rfl, rfl, rfl, trivial⟩, rfl, trivial⟩, rfl⟩
      · rintro _ h
        unfold m_impl_Sg_resolve_j24 at h
        refine .inr ⟨Int × List Int, fun x => ([(5, .ptr 0 0), (6, .p (.lst (r782.map I))), (7, .p (I x.1)), (8, .row 1 1 0 x.2.length), (9, .p (I v489)), (22, .p (.lst (a62.decls_.map gSpot.enc))), (23, .p (I ((a62.decls_.map gSpot.enc).length : Int))), (24, .p (I v489))], [.box 71 [.p (I x803.scope_), .p (S x803.name_)], .row 3 1 (x.2.map I)]), fun x => m_impl_Sg_resolve_j26 v489 (m_impl_Sg_resolve_l23 a62 x803 r782 k23) x.1 x.2 = some r, ?_, ?_⟩
        · refine .inr ⟨Bool, fun x => ([(5, .ptr 0 0), (6, .p (.lst (r782.map I))), (7, .p (I v488)), (8, .row 1 1 0 v490.length), (9, .p (I v489)), (11, .p (I x815)), (22, .p (.lst (a62.decls_.map gSpot.enc))), (23, .p (I ((a62.decls_.map gSpot.enc).length : Int))), (24, .p (I v489)), (58, .p (B x))], [.box 71 [.p (I x803.scope_), .p (S x803.name_)], .row 3 1 (v490.map I)]), fun x => m_impl_Sg_resolve_j27 v488 v489 v490 (m_impl_Sg_resolve_l23 a62 x803 r782 k23) x815 x = some r, ?_, ?_⟩
          · refine And.intro (fun c => ?_) (fun c => ?_)
            · replace h := cF h c
              refine And.intro (fun _ => ?_) (fun c => absurd c (by decide))
              refine And.intro (fun _ => ?_) (fun c => absurd c (by decide))
              refine And.intro (fun c => absurd c (by decide)) (fun _ => ?_)
              exact ⟨(decide (x815 < v488)), h, [], ⟨rfl, rfl, rfl, rfl, rfl, rfl, rfl, rfl, rfl, rfl, trivial⟩, ⟨⟨rfl, rfl, rfl, trivial⟩, rfl, trivial⟩, rfl⟩
            · replace h := cT h c
              refine And.intro (fun c => absurd c (by decide)) (fun _ => ?_)
              refine And.intro (fun c => absurd c (by decide)) (fun _ => ?_)
              refine And.intro (fun _ => ?_) (fun c => absurd c (by decide))
              exact ⟨true, h, [], ⟨rfl, rfl, rfl, rfl, rfl, rfl, rfl, rfl, rfl, rfl, trivial⟩, ⟨⟨rfl, rfl, rfl, trivial⟩, rfl, trivial⟩, rfl⟩
          · rintro v501 h
            unfold m_impl_Sg_resolve_j27 at h
            refine And.intro (fun c => ?_) (fun c => ?_)
            · replace h := cT h c
              exact ⟨(x815, []), h, [(999999, 0), (3, 1)], ⟨rfl, rfl, rfl, ⟨rfl, rfl⟩, rfl, rfl, rfl, rfl, trivial⟩, ⟨⟨rfl, rfl, rfl, trivial⟩, rfl, trivial⟩, rfl⟩
            · replace h := cF h c
              exact ⟨(v488, v490), h, [], ⟨rfl, rfl, rfl, rfl, rfl, rfl, rfl, rfl, trivial⟩, ⟨⟨rfl, rfl, rfl, trivial⟩, rfl, trivial⟩, rfl⟩
        · rintro ⟨v499, v500⟩ h
          unfold m_impl_Sg_resolve_j26 at h
          refine And.intro (show fits _ _ from ⟨⟨rfl, rfl⟩, trivial⟩) ?_
          obtain ⟨g6, h⟩ := gpT h
          refine Exists.intro ([I v489]) (And.intro (rowN rfl rfl) ?_)
          refine Exists.intro (v500.map I) (And.intro (rowX (rowN rfl (show v500.length = (v500.map I).length by simp)) (show fits _ _ from ⟨⟨rfl, rfl⟩, trivial⟩) (appfitJ (by first | simpa using g6 | (simp at g6 ⊢; omega)) rfl)) ?_)
          exact ⟨(v499, (wr .i64 (v489 + 1)), (v500 ++ [v489])), k23, h, Nat.lt_succ_self _, [], ⟨rfl, rfl, rfl, (congrArg (AV.row 1 1 0) (show (v500 ++ [v489]).length = (v500.length + ([I v489] : List PV).length) by simp)), rfl, rfl, rfl, trivial⟩, ⟨⟨rfl, rfl, rfl, trivial⟩, (congrArg (Bk.row 3 1) (show (v500 ++ [v489]).map I = (v500.map I) ++ [I v489] by simp)), trivial⟩, rfl⟩
    · replace h := cF h c
      exact ⟨v490, h, [(999999, 1)], ⟨rfl, trivial⟩, ⟨rfl, trivial⟩, rfl⟩
  · rintro v484 h
    unfold m_impl_Sg_resolve_j14 at h
    refine .inl ?_
    refine .inl (Exists.intro _ (And.intro (rowN rfl (show v484.length = (v484.map I).length by simp)) ?_))
    replace h := Option.some.inj h
    subst h
    exact ⟨[.p (.lst (v484.map I))], [], ⟨[], ⟨rfl, trivial⟩, trivial, rfl⟩, rfl, rfl, rfl⟩
def m_slices_Index___int_int__j2 : Option Int :=
  some (-1)
def m_slices_Index___int_int__l3 (a64 : List Int) (a65 : Int) : Nat → Int → Option Int
  | 0, _ => none
  | k3 + 1, v504 =>
    bif (decide (v504 < ((a64.map I).length : Int))) then (
      (ix a64 v504).bind fun x821 =>
      bif (a65 == x821) then (
        some v504)
      else (
        (m_slices_Index___int_int__l3 a64 a65 k3) (wr .i64 (v504 + 1))))
    else (
      m_slices_Index___int_int__j2)
def m_slices_Index___int_int_ (n : Nat) (a64 : List Int) (a65 : Int) : Option Int :=
  m_slices_Index___int_int__l3 a64 a65 n 0
theorem c_slices_Index___int_int_ (n : Nat) (a64 : List Int) (a65 : Int) (r : Int) (h : m_slices_Index___int_int_ n a64 a65 = some r) : FnP Try.prog 184 [.lst (a64.map I), I a65] [I r] := by
  unfold m_slices_Index___int_int_ at h
  refine fn_introJ Try.func184 rfl rfl rfl ?_
  refine .inl ?_
  refine .inr ⟨Unit, fun x => ([], []), fun x => m_slices_Index___int_int__j2 = some r, ?_, ?_⟩
  · refine .inl ?_
    refine ⟨Int, fun x => ([(0, .p (.lst (a64.map I))), (1, .p (I a65)), (7, .p (I ((a64.map I).length : Int))), (8, .p (I x))], []), fun x k => m_slices_Index___int_int__l3 a64 a65 k x = some r, ⟨0, n, h, [], ⟨rfl, rfl, rfl, rfl, trivial⟩, trivial, rfl⟩, ?_⟩
    rintro v504 (_ | k3) h
    · exact ns h
    unfold m_slices_Index___int_int__l3 at h
    refine .inl ?_
    refine .inl ?_
    refine And.intro (fun c => ?_) (fun c => ?_)
    · replace h := cT h c
      refine .inl ?_
      refine .inl ?_
      refine .inl ?_
      obtain ⟨x821, hx821, h⟩ := bsm h
      refine And.intro (ix0 hx821) (Exists.intro _ (And.intro (gm (ixg hx821)) (And.intro rfl ?_)))
      refine And.intro (fun c => ?_) (fun c => ?_)
      · replace h := cT h c
        refine .inl ?_
        replace h := Option.some.inj h
        subst h
        exact ⟨[.p (I v504)], [], ⟨[], ⟨rfl, trivial⟩, trivial, rfl⟩, rfl, rfl, rfl⟩
      · replace h := cF h c
        exact ⟨(wr .i64 (v504 + 1)), k3, h, Nat.lt_succ_self _, [], ⟨rfl, rfl, rfl, rfl, trivial⟩, trivial, rfl⟩
    · replace h := cF h c
      exact ⟨(), h, [], trivial, trivial, rfl⟩
  · rintro _ h
    unfold m_slices_Index___int_int__j2 at h
    refine .inl ?_
    replace h := Option.some.inj h
    subst h
    exact ⟨[.p (I (-1))], [], ⟨[], ⟨rfl, trivial⟩, trivial, rfl⟩, rfl, rfl, rfl⟩
def m_slices_Contains___int_int_ (n : Nat) (a66 : List Int) (a67 : Int) : Option Bool :=
  (m_slices_Index___int_int_ n a66 a67).bind fun r783 =>
  some (decide (r783 ≥ 0))
theorem c_slices_Contains___int_int_ (n : Nat) (a66 : List Int) (a67 : Int) (r : Bool) (h : m_slices_Contains___int_int_ n a66 a67 = some r) : FnP Try.prog 106 [.lst (a66.map I), I a67] [B r] := by
  unfold m_slices_Contains___int_int_ at h
  refine fn_introJ Try.func106 rfl rfl rfl ?_
  refine .inl ?_
  refine .inl ?_
  obtain ⟨r783, hr783, h⟩ := bsm h
  refine callA (c_slices_Index___int_int_ n a66 a67 _ hr783) ?_
  replace h := Option.some.inj h
  subst h
  exact ⟨[.p (B (decide (r783 ≥ 0)))], [], ⟨[], ⟨rfl, trivial⟩, trivial, rfl⟩, rfl, rfl, rfl⟩
def m_slices_Equal___int_int__j2 : Option Bool :=
  some true
def m_slices_Equal___int_int__l3 (a68 : List Int) (a69 : List Int) : Nat → Int → Option Bool
  | 0, _ => none
  | k3 + 1, v508 =>
    bif (decide (v508 < ((a68.map I).length : Int))) then (
      (ix a68 v508).bind fun x844 =>
      (ix a69 v508).bind fun x845 =>
      bif (x844 != x845) then (
        some false)
      else (
        (m_slices_Equal___int_int__l3 a68 a69 k3) (wr .i64 (v508 + 1))))
    else (
      m_slices_Equal___int_int__j2)
def m_slices_Equal___int_int_ (n : Nat) (a68 : List Int) (a69 : List Int) : Option Bool :=
  bif (((a68.map I).length : Int) != ((a69.map I).length : Int)) then (
    some false)
  else (
    m_slices_Equal___int_int__l3 a68 a69 n 0)
end Go.Proofs.Ytegpjjnedbbpjaa.Z
