/- Trees: right trees. -/
import Derived.Test.YtnnalcglfgapbaaTrA
set_option linter.unusedVariables false
set_option linter.unusedSimpArgs false
namespace Go.Proofs.Ytnnalcglfgapbaa.Z
open Go Go.RowKit Go.Proofs.Sy Go.Proofs

structure Tree where
  nm : ByteArray
  tx : ByteArray
  lf : Bool
  ks : List Tree
mutual
def enc0 : Tree → PV
  | ⟨n, t, b, ks⟩ => .agg [S n, S t, B b, .lst (encM ks)]
def encM : List Tree → List PV
  | [] => []
  | t :: r => enc0 t :: encM r
end
def Tree.enc (t : Tree) : PV := .agg [S t.nm, S t.tx, B t.lf, .lst (encM t.ks)]
theorem enc0_eq (t : Tree) : enc0 t = t.enc := by cases t; rfl
theorem encM_eq : ∀ l : List Tree, encM l = l.map Tree.enc
  | [] => rfl
  | t :: r => by simp only [encM, enc0_eq, encM_eq r, List.map_cons]
theorem encM_len (l : List Tree) : (encM l).length = l.length := by rw [encM_eq, List.length_map]
theorem encM_get {l : List Tree} {i : Nat} {t : Tree} (h : l[i]? = some t) : (encM l)[i]? = some t.enc := by rw [encM_eq, List.getElem?_map, h]; rfl
theorem kid_lt {t k : Tree} (h : k ∈ t.ks) : SizeOf.sizeOf k < SizeOf.sizeOf t := by
  have := List.sizeOf_lt_of_mem h
  cases t; simp at this ⊢; omega
theorem drop_cons {α : Type} {l : List α} {i : Int} (h0 : 0 ≤ i) (h1 : i < l.length) : ∃ x, l[i.toNat]? = some x ∧ x ∈ l ∧ l.drop i.toNat = x :: l.drop (i + 1).toNat := by
  have h : i.toNat < l.length := by omega
  refine ⟨l[i.toNat], List.getElem?_eq_getElem h, List.getElem_mem h, ?_⟩
  rw [show (i + 1).toNat = i.toNat + 1 by omega]
  exact List.drop_eq_getElem_cons h
theorem drop_end {α : Type} {l : List α} {i : Int} (h : (l.length : Int) ≤ i) : l.drop i.toNat = [] := List.drop_eq_nil_of_le (by omega)

mutual
def room : Tree → Int → Int → Int
  | ⟨_, _, _, ks⟩, r, d => if d < 1 then -1 else roomL ks (r - 1) (d - 1)
def roomL : List Tree → Int → Int → Int
  | [], r, _ => r
  | k :: ks, r, d => if 0 ≤ r then roomL ks (room k r d) d else r
end
theorem room_eq (t : Tree) (r d : Int) : room t r d = if d < 1 then -1 else roomL t.ks (r - 1) (d - 1) := by cases t; rfl
mutual
theorem room_le : ∀ (t : Tree) (r d : Int), 0 ≤ r → -1 ≤ room t r d ∧ room t r d ≤ r - 1
  | ⟨_, _, _, ks⟩, r, d, h => by
    simp only [room]
    split
    · omega
    · exact roomL_le ks (r - 1) (d - 1) (by omega)
theorem roomL_le : ∀ (l : List Tree) (r d : Int), -1 ≤ r → -1 ≤ roomL l r d ∧ roomL l r d ≤ r
  | [], r, d, h => by simp only [roomL]; omega
  | k :: ks, r, d, h => by
    simp only [roomL]
    split
    · rename_i h0
      have h1 := room_le k r d h0
      have h2 := roomL_le ks (room k r d) d h1.1
      omega
    · omega
end
theorem roomL_neg {l : List Tree} {r d : Int} (h : ¬ 0 ≤ r) : roomL l r d = r := by cases l <;> simp [roomL, h]
set_option maxRecDepth 100000
theorem sRoom (t : Tree) (r d : Int) (h : 0 ≤ r ∧ r ≤ 4611686018427387904) (hd : -4611686018427387904 ≤ d ∧ d ≤ 4611686018427387904) : FnP Try.prog 121 [t.enc, I r, I d] [I (room t r d)] := by
  have ih : ∀ k, k ∈ t.ks → ∀ r d : Int, (0 ≤ r ∧ r ≤ 4611686018427387904) → (-4611686018427387904 ≤ d ∧ d ≤ 4611686018427387904) → FnP Try.prog 121 [k.enc, I r, I d] [I (room k r d)] := fun k hk r d h hd => sRoom k r d h hd
  rw [room_eq]
  refine fn_intro Try.func121 rfl rfl rfl ?_
  refine And.intro (fun c => ?_) (fun c => ?_) <;> simp only [decide_eq_true_eq, decide_eq_false_iff_not] at c
  · exact ⟨[], ⟨trivial, rfl⟩, by rw [if_pos c]; rfl, rfl⟩
  · rw [if_neg c]
    refine ⟨Int × Int, fun x => ([(1, .p (I x.1)), (2, .p (I d)), (3, .ptr 0 0), (7, .p (I x.2))], [.box 88 [.p (S t.nm), .p (S t.tx), .p (B t.lf), .p (.lst (encM t.ks))]]),
      fun x n => 0 ≤ x.2 ∧ x.2 ≤ t.ks.length ∧ -1 ≤ x.1 ∧ x.2 + x.1 ≤ r - 1 ∧ n = (t.ks.length - x.2).toNat ∧ roomL (t.ks.drop x.2.toNat) x.1 (d - 1) = roomL t.ks (r - 1) (d - 1),
      ⟨(r - 1, 0), _, ⟨by simp, by simp, by simp; omega, by simp, rfl, rfl⟩, [], ⟨congrArg (fun x => AV.p (I x)) (w64 (by omega)).symm, rfl, rfl, rfl, trivial⟩, ⟨⟨rfl, rfl, rfl, rfl, rfl, trivial⟩, trivial⟩, rfl⟩, ?_⟩
    rintro ⟨rm, i⟩ n ⟨h0, h1, h2, h3, rfl, hr⟩
    simp only at h0 h1 h2 h3 hr
    refine And.intro (fun c1 => ?_) (fun c1 => ?_) <;> simp only [decide_eq_true_eq, decide_eq_false_iff_not, encM_len] at c1
    · obtain ⟨k, hk, hm, hdr⟩ := drop_cons h0 c1
      rw [hdr] at hr
      repeat' first | (refine And.intro (fun c => ?_) (fun c => ?_) <;> first | exact absurd c (by decide) | cases c | (replace c := of_decide_eq_true c; try dsimp only at c) | (replace c := of_decide_eq_false c; try dsimp only at c) | skip) | fail
      · have c2 : 0 ≤ rm := by omega
        have hle := room_le k rm (d - 1) c2
        refine And.intro h0 (Exists.intro k.enc (And.intro (encM_get hk) (And.intro rfl ?_)))
        refine callA (xs := [k.enc, I rm, I (wrap64 (d - 1))]) (ys := [I (room k rm (d - 1))]) (by rw [w64 (by omega)]; exact ih k hm rm (d - 1) (by omega) (by omega)) ?_
        rw [roomL, if_pos c2] at hr
        exact ⟨(room k rm (d - 1), i + 1), _, ⟨by simp; omega, by simp; omega, hle.1, by simp; omega, rfl, hr⟩, by simp; omega, [], ⟨rfl, rfl, rfl, congrArg (fun x => AV.p (I x)) (w64 (by omega)).symm, trivial⟩, ⟨⟨rfl, rfl, rfl, rfl, rfl, trivial⟩, trivial⟩, rfl⟩
      · rw [roomL, if_neg (show ¬ 0 ≤ rm by omega)] at hr
        exact ⟨[], ⟨trivial, rfl⟩, congrArg (fun x => [AV.p (I x)]) hr, rfl⟩
    · have hge : (t.ks.length : Int) ≤ i := by first | omega | (dsimp only at c1; omega) | (simp at c1; omega)
      rw [drop_end (l := t.ks) (i := i) hge] at hr
      repeat' first | (refine And.intro (fun c => ?_) (fun c => ?_) <;> first | exact absurd c (by decide) | cases c | (replace c := of_decide_eq_true c; try dsimp only at c) | (replace c := of_decide_eq_false c; try dsimp only at c) | skip) | fail
      exact ⟨[], ⟨trivial, rfl⟩, congrArg (fun x => [AV.p (I x)]) hr, rfl⟩
termination_by SizeOf.sizeOf t
decreasing_by exact kid_lt hk

mutual
def wt : Tree → Nat
  | ⟨nm, tx, _, ks⟩ => 1 + nm.size + tx.size + wtL ks
def wtL : List Tree → Nat
  | [] => 0
  | k :: ks => wt k + wtL ks
end
theorem wt_eq (t : Tree) : wt t = 1 + t.nm.size + t.tx.size + wtL t.ks := by cases t; rfl
theorem wt_pos (t : Tree) : 1 ≤ wt t := by rw [wt_eq]; omega
theorem wtL_len : ∀ l : List Tree, l.length ≤ wtL l
  | [] => Nat.le_refl _
  | k :: ks => by have := wtL_len ks; have := wt_pos k; simp only [wtL, List.length_cons]; omega
theorem wtL_mem : ∀ {l : List Tree} {k : Tree}, k ∈ l → wt k ≤ wtL l
  | a :: l, k, h => by
    rcases List.mem_cons.mp h with rfl | h
    · simp only [wtL]; omega
    · have := wtL_mem h; simp only [wtL]; omega
theorem wt_kid {t k : Tree} (h : k ∈ t.ks) : wt k < wt t := by have := wtL_mem h; rw [wt_eq t]; omega
theorem wt_len (t : Tree) : t.ks.length < wt t := by have := wtL_len t.ks; rw [wt_eq t]; omega
end Go.Proofs.Ytnnalcglfgapbaa.Z
