/- The law FnExactTreeHash, plainly. -/
import Derived.Test.YtgdecbliegelmaaPTree
import Derived.Test.YtgdecbliegelmaaStatFnExactTreeHash
namespace Go.Proofs.Ytgdecbliegelmaa.Q
open Go.RowKit Go.Proofs.YtgdecbliegelmaaW.PrintWords Go.Proofs.YtgdecbliegelmaaX
set_option linter.unusedVariables false
theorem OKT_inv' (t : S53) (h : OKT t = true) : Rt t = true ∧ Nn t ≤ 1000 := by
  simp only [OKT, Bool.and_eq_true, decide_eq_true_eq] at h
  exact ⟨h.2, h.1.1⟩
theorem and32 (n : Int) : bits .and .i64 n 4294967295 = n % 4294967296 := by
  have h127 : (BitVec.ofInt 64 4294967295).toNat = 2 ^ 32 - 1 := by decide
  have h1 : (BitVec.ofInt 64 n &&& BitVec.ofInt 64 4294967295).toNat = (n % 18446744073709551616).toNat % 4294967296 := by
    rw [BitVec.toNat_and, BitVec.toNat_ofInt, h127, Nat.and_two_pow_sub_one_eq_mod]
    rfl
  show IntKind.i64.wrap ((BitVec.ofInt 64 n &&& BitVec.ofInt 64 4294967295).toNat : Int) = _
  rw [h1, IntKind.wrap_i64]
  omega
theorem hash_loop (s : ByteArray) (hs : s.size ≤ 1000000) : ∀ d i (x : Int), i + d = s.size → 0 ≤ x → x ≤ 4294967295 → ∃ r, Ev (fun k => spec_l01HashOn.l0 k x s (i : Int)) r ∧ Ev (fun k => impl_TreeHash.l0 k x s (i : Int)) (r, 0) := by
  intro d
  induction d with
  | zero =>
    intro i x hi h0 h1
    refine ⟨x, ?_, ?_⟩
    · refine Ev.step (fun k => by rw [spec_l01HashOn.l0]) ?_
      refine Ev.neg (by omega) ?_
      exact Ev.now _
    · refine Ev.step (fun k => by rw [impl_TreeHash.l0]) ?_
      refine Ev.neg (by omega) ?_
      exact Ev.now _
  | succ d ih =>
    intro i x hi h0 h1
    have hb := bt_range s i
    have w1 : wrap64 (bt s i) = bt s i := pt_wrap (by omega) (by omega)
    have w2 : wrap64 (x * 33) = x * 33 := pt_wrap (by omega) (by omega)
    have w3 : wrap64 (x * 33 + bt s i) = x * 33 + bt s i := pt_wrap (by omega) (by omega)
    obtain ⟨r, e1, e2⟩ := ih (i + 1) ((x * 33 + bt s i) % 4294967296) (by omega) (by omega) (by omega)
    refine ⟨r, ?_, ?_⟩
    · refine Ev.step (fun k => by rw [spec_l01HashOn.l0, w1, w2, w3]) ?_
      refine Ev.pos (by omega) ?_
      refine Ev.pos (by omega) ?_
      rw [pt_wrap (x := (i : Int) + 1) (by omega) (by omega), Int.tmod_eq_emod_of_nonneg (by omega)]
      exact e1
    · refine Ev.step (fun k => by rw [impl_TreeHash.l0, w1, w2, w3]) ?_
      refine Ev.pos (by omega) ?_
      refine Ev.pos (by omega) ?_
      rw [pt_wrap (x := (i : Int) + 1) (by omega) (by omega), and32]
      exact e2
theorem both_hash (t : S53) (ht : FitI t) : ∃ r, Ev (fun k => spec_TreeHash.f k t.f0 t.f1 t.f2 t.f3) r ∧ Ev (fun k => impl_TreeHash.f k t.f0 t.f1 t.f2 t.f3) r := by
  have hs := ok_s t ht
  have hi := ok_i t ht
  unfold spec_TreeHash.f impl_TreeHash.f
  cases h : OKT t with
  | false =>
    rw [h] at hs hi
    exact ⟨_, Ev.bind hs (Ev.neg (by simp) (Ev.now _)), Ev.bind hi (Ev.neg (by simp) (Ev.now _))⟩
  | true =>
    rw [h] at hs hi
    obtain ⟨h1, h2⟩ := OKT_inv' t h
    have h3 := shw_len t h1
    have h4 := strOfNums_size (shw t)
    obtain ⟨r, e1, e2⟩ := hash_loop (strOfNums (shw t)) (by omega) (strOfNums (shw t)).size 0 5381 (by omega) (by omega) (by omega)
    refine ⟨(r, 0), Ev.bind hs (Ev.pos rfl (Ev.bind (show_s t h1 h2) (Ev.bind (a := r) ?_ (Ev.now _)))), Ev.bind hi (Ev.pos rfl (Ev.bind (text_i t h1 h2) e2))⟩
    unfold spec_l01HashOn.f
    exact e1
theorem FnExactTreeHash.pure : FnExactTreeHash.Pure := by
  intro t ht
  refine Ev.rounds (g := fun k => laws_FnExactTreeHash.f k t.f0 t.f1 t.f2 t.f3) ?_
  obtain ⟨r, hr, hr1, hr2⟩ := sz_tree t ht 1048576 (by omega) (by omega)
  unfold laws_FnExactTreeHash.f
  refine Ev.bind hr ?_
  by_cases hn : r < 0
  · exact Ev.pos hn (Ev.now _)
  refine Ev.neg hn ?_
  have hf := fit_conv t ht
  obtain ⟨q, h1, h2⟩ := both_hash (conv t) hf
  refine Ev.bind (to_tree t ht) ?_
  refine Ev.bind h1 ?_
  refine Ev.bind (to_tree t ht) ?_
  refine Ev.bind h2 ?_
  refine Ev.pos rfl ?_
  refine Ev.step (fun k => by rw [laws_FnExactTreeHash.j0]) ?_
  refine Ev.neg (by simp) ?_
  refine Ev.bind (to_tree t ht) ?_
  refine Ev.bind (eq_tree (conv t) hf) ?_
  exact Ev.pos rfl (Ev.now _)
end Go.Proofs.Ytgdecbliegelmaa.Q
