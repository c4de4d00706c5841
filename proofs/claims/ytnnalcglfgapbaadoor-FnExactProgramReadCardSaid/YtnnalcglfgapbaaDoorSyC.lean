/- The operations that leave memory alone: the model does what the symbolic heap says. -/
import Derived.Test.YtnnalcglfgapbaaDoorSyB
import Derived.Lib.Builder
import Derived.Lib.UnsafeStr
import Derived.ChangeKeysEq
import Derived.Laws.IdiomStrings
import Derived.Laws.Cover2
set_option linter.unusedVariables false
set_option linter.unusedSimpArgs false
namespace Go.Proofs.Sy
open Go Go.RowKit

section
variable {P : Program} {cx : Cx} {F : Nat → Prop} {ι : Loc} {fr : Fr} {σ : Sto} {a : Act} {w : World} {wr_ : List Nat} {K : AV → Prop}

/-- One value, in every world that is as here where it may be read. -/
def Y (P : Program) (F : Nat → Prop) (ι : Loc) (σ : Sto) (wr_ : List Nat) (w : World) (K : AV → Prop) (s : Sem Value) : Prop :=
  ∃ x v, K x ∧ VR F ι w x v ∧ ∀ w', Same F ι σ wr_ w w' → s.run P w' = .ok v w'

theorem Y.pure {x : AV} {v : Value} (hk : K x) (hv : VR F ι w x v) : Y P F ι σ wr_ w K (Pure.pure v) := ⟨x, v, hk, hv, fun _ _ => rfl⟩
theorem Y.of {s : Sem Value} {x : AV} {v : Value} (hk : K x) (hv : VR F ι w x v) (h : ∀ w', s.run P w' = .ok v w') : Y P F ι σ wr_ w K s := ⟨x, v, hk, hv, fun w' _ => h w'⟩
theorem VR.raw {v : Value} (h : v.oneCell' = true) : VR F ι w (.p (.raw v)) v := .p _ _ (.raw v h)

theorem VR.inv_raw {v u : Value} (h : VR F ι w (.p (.raw v)) u) : u = v := by
  cases h with
  | p x v h => cases h; rfl

theorem elemOfT_some {T e : TypeId} (h : elemOfT P T = some e) : P.underlying T = some (.slice e) := by
  unfold elemOfT at h
  split at h
  · rename_i e' he; rw [he]; cases h; rfl
  · cases h

theorem info_of_under {T : TypeId} {d : TypeDesc} (h : P.underlying T = some d) : ∃ i, P.info? T = some i := by
  unfold Program.underlying at h
  cases hi : P.info? T with
  | none => simp [hi] at h
  | some i => exact ⟨i, rfl⟩

theorem run_sizeOf_cells {T : TypeId} {w' : World} (h : ∃ i, P.info? T = some i) : (sizeOf T).run P w' = .ok (szOf P T) w' := by
  obtain ⟨i, hi⟩ := h
  exact run_sizeOf w' hi

theorem bin_ok {op : BinOp} {T : TypeId} {x y : AV} {u v : Value} {ox oy : Operand} (hx : VR F ι w x u) (hy : VR F ι w y v) (h : bin op x y K) :
    Y P F ι σ wr_ w K (do eqGuard op T ox oy u v; binOp op T u v) := by
  unfold bin at h
  split at h
  · rename_i k m k' n
    cases VR.inv_raw hx
    cases VR.inv_raw hy
    have key : sameK k k' = true → k' = k := fun h => (sameK_eq h).symm
    cases op
    case shl => refine Y.of h.2 (VR.raw rfl) fun w' => ?_; simp [eqGuard, Go.binOp, Op.shift, show ¬ n < 0 by omega, wr_eq]
    case shr => refine Y.of h.2 (VR.raw rfl) fun w' => ?_; simp [eqGuard, Go.binOp, Op.shift, show ¬ n < 0 by omega]
    case add =>
      simp only at h
      cases hs : sameK k k' with
      | false => rw [hs] at h; exact h.elim
      | true =>
        rw [hs] at h
        obtain rfl := key hs
        refine Y.of h (VR.raw rfl) fun w' => ?_
        simp [eqGuard, Go.binOp, Op.intArith, wr_eq]
    case sub =>
      simp only at h
      cases hs : sameK k k' with
      | false => rw [hs] at h; exact h.elim
      | true =>
        rw [hs] at h
        obtain rfl := key hs
        refine Y.of h (VR.raw rfl) fun w' => ?_
        simp [eqGuard, Go.binOp, Op.intArith, wr_eq]
    case mul =>
      simp only at h
      cases hs : sameK k k' with
      | false => rw [hs] at h; exact h.elim
      | true =>
        rw [hs] at h
        obtain rfl := key hs
        refine Y.of h (VR.raw rfl) fun w' => ?_
        simp [eqGuard, Go.binOp, Op.intArith, wr_eq]
    case quo =>
      simp only at h
      cases hs : sameK k k' with
      | false => rw [hs] at h; exact h.elim
      | true =>
        rw [hs] at h
        obtain rfl := key hs
        obtain ⟨h0, h⟩ := h
        refine Y.of h (VR.raw rfl) fun w' => ?_
        simp [eqGuard, Go.binOp, Op.intDiv, wr_eq, h0]
    case rem =>
      simp only at h
      cases hs : sameK k k' with
      | false => rw [hs] at h; exact h.elim
      | true =>
        rw [hs] at h
        obtain rfl := key hs
        obtain ⟨h0, h⟩ := h
        refine Y.of h (VR.raw rfl) fun w' => ?_
        simp [eqGuard, Go.binOp, Op.intDiv, wr_eq, h0]
    case eql =>
      simp only at h
      cases hs : sameK k k' with
      | false => rw [hs] at h; exact h.elim
      | true =>
        rw [hs] at h
        obtain rfl := key hs
        refine Y.of h (VR.raw rfl) fun w' => ?_
        simp [eqGuard, Go.binOp, Op.intCmp]
    case neq =>
      simp only at h
      cases hs : sameK k k' with
      | false => rw [hs] at h; exact h.elim
      | true =>
        rw [hs] at h
        obtain rfl := key hs
        refine Y.of h (VR.raw rfl) fun w' => ?_
        simp [eqGuard, Go.binOp, Op.intCmp]
    case lss =>
      simp only at h
      cases hs : sameK k k' with
      | false => rw [hs] at h; exact h.elim
      | true =>
        rw [hs] at h
        obtain rfl := key hs
        refine Y.of h (VR.raw rfl) fun w' => ?_
        simp [eqGuard, Go.binOp, Op.intCmp]
    case leq =>
      simp only at h
      cases hs : sameK k k' with
      | false => rw [hs] at h; exact h.elim
      | true =>
        rw [hs] at h
        obtain rfl := key hs
        refine Y.of h (VR.raw rfl) fun w' => ?_
        simp [eqGuard, Go.binOp, Op.intCmp]
    case gtr =>
      simp only at h
      cases hs : sameK k k' with
      | false => rw [hs] at h; exact h.elim
      | true =>
        rw [hs] at h
        obtain rfl := key hs
        refine Y.of h (VR.raw rfl) fun w' => ?_
        simp [eqGuard, Go.binOp, Op.intCmp]
    case geq =>
      simp only at h
      cases hs : sameK k k' with
      | false => rw [hs] at h; exact h.elim
      | true =>
        rw [hs] at h
        obtain rfl := key hs
        refine Y.of h (VR.raw rfl) fun w' => ?_
        simp [eqGuard, Go.binOp, Op.intCmp]
    case and =>
      simp only at h
      cases hs : sameK k k' with
      | false => rw [hs] at h; exact h.elim
      | true =>
        rw [hs] at h
        obtain rfl := key hs
        refine Y.of h (VR.raw rfl) fun w' => ?_
        simp [eqGuard, Go.binOp, Op.intBits]
    case or =>
      simp only at h
      cases hs : sameK k k' with
      | false => rw [hs] at h; exact h.elim
      | true =>
        rw [hs] at h
        obtain rfl := key hs
        refine Y.of h (VR.raw rfl) fun w' => ?_
        simp [eqGuard, Go.binOp, Op.intBits]
    case xor =>
      simp only at h
      cases hs : sameK k k' with
      | false => rw [hs] at h; exact h.elim
      | true =>
        rw [hs] at h
        obtain rfl := key hs
        refine Y.of h (VR.raw rfl) fun w' => ?_
        simp [eqGuard, Go.binOp, Op.intBits]
    all_goals (simp only at h; cases hs : sameK k k' with | false => (rw [hs] at h; exact h.elim) | true => (rw [hs] at h; exact h.elim))
  · rename_i s t
    cases VR.inv_raw hx
    cases VR.inv_raw hy
    cases op <;> simp only [] at h
    case add =>
      refine Y.of h.2 (VR.raw rfl) fun w' => ?_
      have h1 := h.1
      have h2 : ((s.size + t.size : Nat) : Int) ≤ IntKind.i64.max := h1
      simp only [eqGuard, Go.binOp, Op.stringOp, gt_iff_lt, if_neg (Int.not_lt.mpr h2)]
      rfl
    case eql => refine Y.of h (VR.raw rfl) fun w' => ?_; simp [eqGuard, Go.binOp, Op.stringOp, string_eq_list]
    case neq => refine Y.of h (VR.raw rfl) fun w' => ?_; simp [eqGuard, Go.binOp, Op.stringOp, string_eq_list]
    case lss => refine Y.of h (VR.raw rfl) fun w' => ?_; simp [eqGuard, Go.binOp, Op.stringOp, string_eq_list]
    case leq => refine Y.of h (VR.raw rfl) fun w' => ?_; simp [eqGuard, Go.binOp, Op.stringOp, string_eq_list]
    case gtr => refine Y.of h (VR.raw rfl) fun w' => ?_; simp [eqGuard, Go.binOp, Op.stringOp, string_eq_list]
    case geq => refine Y.of h (VR.raw rfl) fun w' => ?_; simp [eqGuard, Go.binOp, Op.stringOp, string_eq_list]
    all_goals exact h.elim
  · exact h.elim

theorem lenS_ok {T : TypeId} {x : AV} {u : Value} (hT : P.underlying T = some .string) (hx : VR F ι w x u) (h : lenK K true x) (ty : TypeId) :
    Y P F ι σ wr_ w K (Builtin.len_ #[T] ty #[u]) := by
  unfold lenK at h
  split at h
  all_goals first | (exact h.elim) | skip
  · rename_i s _
    cases VR.inv_raw hx
    refine Y.of h (VR.raw rfl) fun w' => ?_
    simp [Builtin.len_, run_underlying hT, goInt]
  all_goals (rename_i h1; cases h1)
theorem lenL_ok {T e : TypeId} {x : AV} {u : Value} (hT : P.underlying T = some (.slice e)) (hx : VR F ι w x u) (h : lenK K false x) (ty : TypeId) :
    Y P F ι σ wr_ w K (Builtin.len_ #[T] ty #[u]) := by
  have hsl : ∀ A (n : Nat) c, u = .slice A n c → K (.p (I n)) → Y P F ι σ wr_ w K (Builtin.len_ #[T] ty #[u]) := fun A n c e hk => by
    subst e
    refine Y.of hk (VR.raw rfl) fun w' => ?_
    simp [Builtin.len_, run_underlying hT, goInt]
  unfold lenK at h
  split at h
  · rename_i h1; cases h1
  · cases hx with
    | p x v hv =>
      cases hv with
      | nil A c => exact hsl _ _ _ rfl h
      | lst l r off c sz n vals hF hn hc hs hv hp => subst hn; exact hsl _ _ _ rfl h
  · cases hx with
    | tl l A n hn hv => subst hn; exact hsl _ _ _ rfl h
  · cases hx with
    | row b sz o n r β c N => exact hsl _ _ _ rfl h
    | row0 b sz o A => exact hsl _ _ _ rfl h
  · exact h.elim

theorem toAVs_get : ∀ (l : List PV) (j : Nat), (toAVs l)[j]? = (l[j]?).map .p
  | [], j => by simp [toAVs]
  | x :: l, 0 => by simp [toAVs]
  | x :: l, j + 1 => by simp [toAVs, toAVs_get l j]
theorem toAVs_len : ∀ (l : List PV), (toAVs l).length = l.length
  | [] => rfl
  | x :: l => by simp [toAVs, toAVs_len l]

theorem allP_some : ∀ {l : List AV} {r : List PV}, allP l = some r → l = toAVs r
  | [], r, h => by simp [allP] at h; subst h; rfl
  | .p x :: l, r, h => by
    simp only [allP] at h
    cases hh : allP l with
    | none => simp [hh] at h
    | some q => simp [hh] at h; subst h; simp [toAVs, allP_some hh]
  | .dead :: _, _, h => by simp [allP] at h
  | .tl _ :: _, _, h => by simp [allP] at h
  | .ptr _ _ :: _, _, h => by simp [allP] at h
  | .el _ _ _ _ :: _, _, h => by simp [allP] at h
  | .fp _ _ :: _, _, h => by simp [allP] at h
  | .row _ _ _ _ :: _, _, h => by simp [allP] at h
  | .agg _ :: _, _, h => by simp [allP] at h
  | .tup _ :: _, _, h => by simp [allP] at h

/-- Values that lie side by side make an aggregate. -/
theorem mkAgg_ok {l : List AV} {vs : List Value} (hl : vs.length = l.length) (h1 : ∀ v ∈ vs, v.oneCell' = true) (hp : ∀ (j : Nat) y v, l[j]? = some y → vs[j]? = some v → VR F ι w y v) : VR F ι w (mkAgg l) (.agg vs.toArray) := by
  unfold mkAgg
  split
  · rename_i r hr
    have e := allP_some hr
    subst e
    have hv : ∀ (j : Nat) (y : PV) (v : Value), r[j]? = some y → vs[j]? = some v → PR F w y v := fun j y v hy hv => by
      have := hp j (.p y) v (by rw [toAVs_get, hy]; rfl) hv
      cases this with
      | p _ _ h => exact h
    have hlen : vs.length = r.length := by rw [hl, toAVs_len]
    refine .p _ _ (.agg r vs hlen ?_ hv)
    have : ∀ (r : List PV) (vs : List Value), vs.length = r.length → (∀ v ∈ vs, v.oneCell' = true) → (∀ (j : Nat) (y : PV) (v : Value), r[j]? = some y → vs[j]? = some v → PR F w y v) → allOne r = true := by
      intro r
      induction r with
      | nil => intros; rfl
      | cons x r ih =>
        intro vs hl h1 hp
        cases vs with
        | nil => simp at hl
        | cons v vs =>
          simp only [allOne, Bool.and_eq_true]
          refine ⟨?_, ih vs (by simpa using hl) (fun v hv => h1 v (by simp [hv])) (fun j y v hy hv => hp (j + 1) y v (by simpa using hy) (by simpa using hv))⟩
          have h2 := hp 0 x v rfl rfl
          have h3 := h1 v (by simp)
          cases h2 with
          | raw => rfl
          | nil => rfl
          | lst => rfl
          | agg => simp [Value.oneCell'] at h3
          | bn => rfl
          | bx => rfl
    exact this r vs hlen h1 hv
  · exact .agg l vs hl h1 hp

/-- The cells that a pointer sees: c, from cell o of block r on, in every world that is as here. -/
theorem getK_ok {T : TypeId} {c : List AV} {off r o : Nat} (h : getK P T c off K) (hcell : ∀ (j : Nat) x, c[j]? = some x → ∃ v, VR F ι w x v ∧ v.oneCell' = true ∧ ∀ w', Same F ι σ wr_ w w' → w'.cell? ⟨r, o + j, none⟩ = some v) :
    Y P F ι σ wr_ w K (Instr.loadAt T (.pointer (some ⟨r, o + off, none⟩))) := by
  unfold getK at h
  cases hr : isRowT P T with
  | none => rw [hr] at h; exact h.elim
  | some rb =>
  have hu : ∃ d, P.underlying T = some d ∧ d.isRow = rb := by
    unfold isRowT at hr
    split at hr
    · rename_i d hd; exact ⟨d, hd, by simpa using hr⟩
    · cases hr
  obtain ⟨d, hu, hd⟩ := hu
  cases rb with
  | true =>
    rw [hr] at h
    simp only at h
    obtain ⟨i, hi⟩ := info_of_under hu
    cases ht : takeL (szOf P T) (dropL off c) with
    | none => rw [ht] at h; exact h.elim
    | some q =>
      rw [ht] at h
      simp only at h
      obtain ⟨hq, hql⟩ := takeL_some _ _ _ ht
      rw [dropL_eq] at hq
      have hqc : ∀ (j : Nat) x, q[j]? = some x → c[off + j]? = some x := fun j x hx => by
        rw [hq, List.getElem?_take] at hx
        split at hx
        · simpa [List.getElem?_drop] using hx
        · cases hx
      have hex : ∀ (q : List AV) (s : Nat), (∀ (j : Nat) x, q[j]? = some x → c[s + j]? = some x) → ∃ vs : List Value, vs.length = q.length ∧ (∀ v ∈ vs, v.oneCell' = true) ∧ ∀ (j : Nat) y v, q[j]? = some y → vs[j]? = some v → VR F ι w y v ∧ ∀ w', Same F ι σ wr_ w w' → w'.cell? ⟨r, o + (s + j), none⟩ = some v := by
        intro q
        induction q with
        | nil => intro s _; exact ⟨[], rfl, by simp, fun j y v hy => by simp at hy⟩
        | cons x q ih =>
          intro s hs
          obtain ⟨v, hv1, hv2, hv3⟩ := hcell s x (by simpa using hs 0 x rfl)
          obtain ⟨vs, h1, h2, h3⟩ := ih (s + 1) (fun j y hy => by have := hs (j + 1) y (by simpa using hy); rwa [show s + (j + 1) = s + 1 + j by omega] at this)
          refine ⟨v :: vs, by simp [h1], by simpa using ⟨hv2, h2⟩, fun j y u hy hu => ?_⟩
          cases j with
          | zero => simp at hy hu; subst hy; subst hu; exact ⟨hv1, hv3⟩
          | succ j =>
            have := h3 j y u (by simpa using hy) (by simpa using hu)
            rwa [show s + 1 + j = s + (j + 1) by omega] at this
      obtain ⟨vs, h1, h2, h3⟩ := hex q off hqc
      refine ⟨mkAgg q, .agg vs.toArray, h, mkAgg_ok h1 h2 (fun j y v hy hv => (h3 j y v hy hv).1), fun w' hw' => ?_⟩
      refine run_loadAt_mid w' r (o + off) T vs d (fun j v hv => ?_) hu hd (by rw [hi]; simp [h1, hql, szOf, Program.cellsOf, hi])
      obtain ⟨y, hy⟩ : ∃ y, q[j]? = some y := by
        have := (List.getElem?_eq_some_iff.mp hv).1
        exact ⟨_, List.getElem?_eq_getElem (by omega)⟩
      have := (h3 j y v hy hv).2 w' hw'
      rwa [show o + (off + j) = o + off + j by omega] at this
  | false =>
    rw [hr] at h
    simp only at h
    rw [nth_eq] at h
    cases hx : c[off]? with
    | none => rw [hx] at h; exact h.elim
    | some x =>
      rw [hx] at h
      obtain ⟨v, hv1, hv2, hv3⟩ := hcell off x hx
      refine ⟨x, v, h, hv1, fun w' hw' => ?_⟩
      have hagg : (isAgg T).run P w' = .ok false w' := by
        unfold isAgg
        rw [Sem.run_bind, run_underlying hu w']
        cases d <;> simp_all [TypeDesc.isRow]
      have := hv3 w' hw'
      simp [Instr.loadAt, Instr.sureAddr, loadVar, Sem.run_bind, hagg, run_load, this]

theorem PR.row_cells {l : List PV} {A : Option Addr} {n c : Nat} (h : PR F w (.lst l) (.slice A n c)) : n = l.length ∧ n ≤ c ∨ n = 0 ∧ l = [] := by
  cases h with
  | nil => exact .inr ⟨rfl, rfl⟩
  | lst l r off c sz n vals hF hn hc => exact .inl ⟨hn, hc⟩
theorem PR.len {l : List PV} {A : Option Addr} {n c : Nat} (h : PR F w (.lst l) (.slice A n c)) : n = l.length := by
  cases h with
  | nil => rfl
  | lst l r off c sz n vals hF hn hc => exact hn

theorem toAVs_cells {x : PV} {r o : Nat} {vals : Nat → Value} (hF : F r) (hv : ∀ (j : Nat) y, x.cs[j]? = some y → w.cell? ⟨r, o + j, none⟩ = some (vals j)) (hp : ∀ (j : Nat) y, x.cs[j]? = some y → PR F w y (vals j)) (h1 : allOne x.cs = true) :
    ∀ (j : Nat) y, (toAVs x.cs)[j]? = some y → ∃ v, VR F ι w y v ∧ v.oneCell' = true ∧ ∀ w', Same F ι σ wr_ w w' → w'.cell? ⟨r, o + j, none⟩ = some v := fun j y hy => by
  rw [toAVs_get] at hy
  obtain ⟨y0, hy0, rfl⟩ := Option.map_eq_some_iff.mp hy
  exact ⟨vals j, .p _ _ (hp j y0 hy0), (hp j y0 hy0).oneCell (allOne_get h1 hy0), fun w' hw' => (cell_block (hw'.1 r hF)).trans (hv j y0 hy0)⟩

theorem loadK_ok {T : TypeId} {x : AV} {u : Value} (hs : SR F ι w σ) (hx : VR F ι w x u) (h : loadK P T σ wr_ K x) : Y P F ι σ wr_ w K (Instr.loadAt T u) := by
  unfold loadK at h
  split at h
  · rename_i b off
    cases hm : memN b wr_ with
    | true => rw [hm] at h; exact h.elim
    | false =>
      rw [hm] at h
      simp only [cond_false] at h
      split at h
      · rename_i T0 c hc
        cases hx with
        | ptr b off r hι =>
          have hb := hs.bk b
          rw [hc, hι] at hb
          obtain ⟨r', cs, e, hh, hl, h1, hp⟩ := hb
          cases e
          have := getK_ok (o := 0) (r := r) (F := F) (ι := ι) (σ := σ) (w := w) (wr_ := wr_) h (fun j x hj => by
            obtain ⟨v, hv⟩ : ∃ v, cs[j]? = some v := ⟨_, Array.getElem?_eq_getElem (by have := (List.getElem?_eq_some_iff.mp hj).1; omega)⟩
            refine ⟨v, hp j x v hj hv, h1 v (Array.mem_of_getElem? hv), fun w' hw' => ?_⟩
            have e2 := hw'.2 b r 0 (by rw [hc]; rfl) hm hι
            rw [cell_block e2]
            simp [World.cell?, hh, hv])
          simpa using this
      · rename_i c hc
        cases hx with
        | ptr b off r hι =>
          have hb := hs.bk b
          rw [hc, hι] at hb
          obtain ⟨r', cs, T1, e, hF, hh, hl, h1, hp⟩ := hb
          cases e
          have := getK_ok (o := 0) (r := r) (F := F) (ι := ι) (σ := σ) (w := w) (wr_ := wr_) h (fun j x hj => by
            rw [toAVs_get] at hj
            obtain ⟨y0, hy0, rfl⟩ := Option.map_eq_some_iff.mp hj
            obtain ⟨v, hv⟩ : ∃ v, cs[j]? = some v := ⟨_, Array.getElem?_eq_getElem (by have := (List.getElem?_eq_some_iff.mp hy0).1; omega)⟩
            have hpr := hp j y0 v hy0 hv
            refine ⟨v, .p _ _ hpr, hpr.oneCell (allOne_get h1 hy0), fun w' hw' => ?_⟩
            rw [cell_block (hw'.1 r hF)]
            simp [World.cell?, hh, hv])
          simpa using this
      · exact h.elim
  · rename_i b sz i off
    cases hm : memN b wr_ with
    | true => rw [hm] at h; exact h.elim
    | false =>
      rw [hm] at h
      simp only [cond_false] at h
      have key : ∀ (T0 : TypeId) (sz' : Nat) (l : List PV) (hc : ∀ p, BR F ι w (at_ σ b) p → RowAt F w T0 sz' l p) (hsame : ∀ r β, ι b = some (r, β) → ∀ w', Same F ι σ wr_ w w' → w'.heap[r]? = w.heap[r]?),
          (bif Nat.beq sz sz' then ∃ x, l[i]? = some x ∧ getK P T (toAVs x.cs) off K else False) → Y P F ι σ wr_ w K (Instr.loadAt T u) := by
        intro T0 sz' l hc hsame h
        cases hz : Nat.beq sz sz' with
        | false => rw [hz] at h; exact h.elim
        | true =>
          rw [hz] at h
          have := Nat.eq_of_beq_eq_true hz
          subst this
          obtain ⟨x, hx1, h⟩ := h
          cases hx with
          | el b sz i off r β hι =>
            have hb := hc _ (hs.bk b)
            rw [hι] at hb
            obtain ⟨cs, hh, hl, hfit, hp⟩ := hb
            have hlt := (List.getElem?_eq_some_iff.mp hx1).1
            have hf := hfit i x hx1
            have := getK_ok (o := β + i * sz) (r := r) (F := F) (ι := ι) (σ := σ) (w := w) (wr_ := wr_) h (fun j y hj => by
              rw [toAVs_get] at hj
              obtain ⟨y0, hy0, rfl⟩ := Option.map_eq_some_iff.mp hj
              have hj2 := (List.getElem?_eq_some_iff.mp hy0).1
              have hle : (i + 1) * sz ≤ l.length * sz := Nat.mul_le_mul_right _ hlt
              rw [Nat.add_mul, Nat.one_mul] at hle
              obtain ⟨v, hv⟩ : ∃ v, cs[β + (i * sz + j)]? = some v := ⟨_, Array.getElem?_eq_getElem (by have := hf.1; omega)⟩
              have hpr := hp i x j y0 v hx1 hy0 hv
              refine ⟨v, .p _ _ hpr, hpr.oneCell (allOne_get hf.2 hy0), fun w' hw' => ?_⟩
              have e2 := hsame r β hι w' hw'
              rw [cell_block e2]
              simp [World.cell?, hh, Nat.add_assoc, hv])
            rwa [Nat.add_assoc] at this
      split at h
      · rename_i T0 sz' l hc
        exact key T0 sz' l (fun p hp => by rw [hc] at hp; exact hp) (fun r β hι w' hw' => hw'.2 b r β (by rw [hc]; rfl) hm hι) h
      · rename_i T0 sz' l hc
        exact key T0 sz' l (fun p hp => by rw [hc] at hp; exact hp.1) (fun r β hι w' hw' => by
          have hb := hs.bk b
          rw [hc] at hb
          exact hw'.1 r (hb.2 r β hι)) h
      · rename_i T0 sz' l hc
        exact key T0 sz' l (fun p hp => by rw [hc] at hp; exact hp) (fun r β hι w' hw' => hw'.2 b r β (by rw [hc]; rfl) hm hι) h
      · exact h.elim
  · rename_i x off
    cases hx with
    | fp x off r o vals hF hv hp h1 => exact getK_ok h (toAVs_cells hF hv hp h1)
  · exact h.elim

theorem fieldK_ok {T f : Nat} {x : AV} {u : Value} (hx : VR F ι w x u) (h : fieldK P T f K x) : Y P F ι σ wr_ w K (Instr.fieldAt T u f) := by
  unfold fieldK at h
  split at h
  · rename_i fs hu
    split at h
    · rename_i fd hf
      cases hz : Nat.beq (szOf P fd.type) 0 with
      | true => rw [hz] at h; exact h.elim
      | false =>
        rw [hz] at h
        simp only [cond_false] at h
        have hne : szOf P fd.type ≠ 0 := fun e => by rw [e] at hz; cases hz
        have hi : ∃ i, P.info? fd.type = some i := by
          unfold szOf Program.cellsOf at hne
          cases hi : P.info? fd.type with
          | none => simp [hi] at hne
          | some i => exact ⟨i, rfl⟩
        have hrun : ∀ (r o : Nat) (w' : World), (Instr.fieldAt T (.pointer (some ⟨r, o, none⟩)) f).run P w' = .ok (.pointer (some ⟨r, o + fd.offset, none⟩)) w' := fun r o w' => by
          simp only [Instr.fieldAt, Sem.run_bind, run_underlying hu, Result.andThen_ok, hf, Instr.sureAddr, Sem.run_pure, fieldPlace, run_sizeOf_cells hi, if_neg hne, Addr.add_mid]
        unfold addrK at h
        split at h
        · rename_i b off
          cases hx with
          | ptr b off r hι => exact Y.of h (.ptr b _ r hι) (hrun _ _)
        · rename_i b sz i off
          cases hx with
          | el b sz i off r β hι => exact Y.of h (.el b sz i _ r β hι) (fun w' => by rw [hrun]; simp only [Nat.add_assoc])
        · rename_i x off
          cases hx with
          | fp x off r o vals hF hv hp h1 => exact Y.of h (.fp x _ r o vals hF hv hp h1) (fun w' => by rw [hrun]; simp only [Nat.add_assoc])
        · exact h.elim
    · exact h.elim
  · exact h.elim

theorem run_indexAt_slice {T e : TypeId} {k : IntKind} {i : Int} {r o n c : Nat} (hu : P.underlying T = some (.slice e)) (hi : ∃ i, P.info? e = some i) (h0 : 0 ≤ i) (h1 : i < n) (w' : World) :
    (Instr.indexAt T (.slice (some ⟨r, o, none⟩) n c) (.int k i)).run P w' = .ok (.pointer (some ⟨r, o + i.toNat * szOf P e, none⟩)) w' := by
  simp [Instr.indexAt, asIntOf, run_underlying hu, run_sizeOf_cells hi, h0, h1, Addr.add_mid]

theorem indexP_ok {T e : TypeId} {k : IntKind} {i : Int} {l : List PV} {A : Option Addr} {n c : Nat} (hu : P.underlying T = some (.slice e)) (hx : PR F w (.lst l) (.slice A n c))
    (h : 0 ≤ i ∧ ∃ x, l[i.toNat]? = some x ∧ x.cs.length = szOf P e ∧ K (.fp x 0)) (hz : szOf P e ≠ 0) : Y P F ι σ wr_ w K (Instr.indexAt T (.slice A n c) (.int k i)) := by
  obtain ⟨h0, x, hx1, hsz, hk⟩ := h
  have hi : ∃ i, P.info? e = some i := by
    unfold szOf Program.cellsOf at hz
    cases hi : P.info? e with
    | none => simp [hi] at hz
    | some i => exact ⟨i, rfl⟩
  cases hx with
  | nil => simp at hx1
  | lst l r off c sz n vals hF hn hc hs hv hp =>
    subst hn
    have hlt := (List.getElem?_eq_some_iff.mp hx1).1
    have hfit := hs _ x hx1
    have e1 : sz = szOf P e := by rw [← hsz]; exact hfit.1.symm
    subst e1
    refine Y.of hk (.fp x 0 r (off + i.toNat * szOf P e) (fun j => vals (i.toNat * szOf P e + j)) hF (fun j y hj => ?_) (fun j y hj => hp _ x j y hx1 hj) hfit.2) (fun w' => run_indexAt_slice hu hi h0 (by omega) w')
    have := hv _ x j y hx1 hj
    rwa [← Nat.add_assoc] at this

theorem indexK_ok {T : TypeId} {x i : AV} {u v : Value} (hs : SR F ι w σ) (hx : VR F ι w x u) (hi : VR F ι w i v) (h : indexK P T K x i) : Y P F ι σ wr_ w K (Instr.indexAt T u v) := by
  unfold indexK at h
  split at h
  · rename_i k i
    cases VR.inv_raw hi
    split at h
    · rename_i e he
      have hu := elemOfT_some he
      have hnz : ∀ x : PV, x.cs.length = szOf P e → K (.fp x 0) → szOf P e ≠ 0 ∨ True := fun _ _ _ => .inr trivial
      have hne : Nat.beq (szOf P e) 0 = false → szOf P e ≠ 0 := fun h e1 => by rw [e1] at h; cases h
      split at h
      · rename_i l
        split at h
        · exact h.elim
        · rename_i h0
          cases hx with
          | p _ v hv =>
            obtain ⟨A, n, c, rfl⟩ : ∃ A n c, u = .slice A n c := by cases hv <;> exact ⟨_, _, _, rfl⟩
            exact indexP_ok hu hv h (hne h0)
      · rename_i l
        split at h
        · exact h.elim
        · rename_i h0
          cases hx with
          | tl l A n hn hv => exact indexP_ok hu hv h (hne h0)
      · rename_i b sz o n
        split at h
        · rename_i hz hz2
          have e1 := Nat.eq_of_beq_eq_true hz
          subst e1
          obtain ⟨⟨h0, h1⟩, hk⟩ := h
          have h2 := hne hz2
          have hi : ∃ i, P.info? e = some i := by
            unfold szOf Program.cellsOf at h2
            cases hi : P.info? e with
            | none => simp [hi] at h2
            | some i => exact ⟨i, rfl⟩
          cases hx with
          | row b sz o n r β c N hι hN hn hc =>
            refine Y.of hk (.el b _ _ 0 r β hι) (fun w' => ?_)
            rw [run_indexAt_slice hu hi h0 h1 w']
            simp only [Nat.add_zero, Nat.add_mul, Nat.add_assoc]
          | row0 b sz o A => exact absurd h1 (by omega)
        · exact h.elim
      · exact h.elim
    · exact h.elim
  · exact h.elim

theorem chK_ok {T : TypeId} {x i : AV} {u v : Value} (hx : VR F ι w x u) (hi : VR F ι w i v) (h : chK P T K x i) : Y P F ι σ wr_ w K (Instr.index T u v) := by
  unfold chK at h
  split at h
  · rename_i hu
    split at h
    · rename_i s k i
      cases VR.inv_raw hx
      cases VR.inv_raw hi
      obtain ⟨⟨h0, h1⟩, hk⟩ := h
      refine Y.of hk (VR.raw rfl) fun w' => ?_
      have hlt : i.toNat < s.size := by omega
      simp [Instr.index, asIntOf, run_underlying hu, h0, hlt, bt]
    · exact h.elim
  · exact h.elim

theorem nilK_ok {x : AV} {u : Value} {o : Oper} {y : Operand} (ho : o.op = .nilCheck y) (he : a.eval y = u) (hx : VR F ι w x u) (h : nilK K x) :
    ∃ x v, K x ∧ VR F ι w x v ∧ ∀ w', Same F ι σ wr_ w w' → (execOp a.eval o).run P w' = .ok (.value v) w' := by
  unfold nilK at h
  split at h
  · cases hx with
    | ptr _ _ r hι => exact ⟨_, _, h, .ptr _ _ r hι, fun w' _ => by simp [execOp, ho, he]⟩
  · cases hx with
    | el _ _ _ _ r β hι => exact ⟨_, _, h, .el _ _ _ _ r β hι, fun w' _ => by simp [execOp, ho, he]⟩
  · cases hx with
    | fp _ _ r o' vals hF hv hp h1 => exact ⟨_, _, h, .fp _ _ r o' vals hF hv hp h1, fun w' _ => by simp [execOp, ho, he]⟩
  · obtain ⟨y1, rfl, h⟩ := h
    cases hx with
    | p _ _ hx =>
      cases hx with
      | bx x r o' vals hF h1 hv hp => exact ⟨_, _, h, .fp _ 0 r o' vals hF hv hp h1, fun w' _ => by simp [execOp, ho, he]⟩
  · cases VR.inv_raw hx
    exact ⟨_, _, h, VR.raw rfl, fun w' _ => by simp [execOp, ho, he]⟩
  · exact h.elim

theorem unK_ok {op : UnOp} {x : AV} {u : Value} (hx : VR F ι w x u) (h : unK op K x) : Y P F ι σ wr_ w K (Op.unary op u) := by
  unfold unK at h
  split at h
  · rename_i k n
    cases VR.inv_raw hx
    cases op <;> simp only [] at h
    case neg => refine Y.of h (VR.raw rfl) fun w' => ?_; simp [Op.unary, Op.intArith, wr_eq]
    all_goals exact h.elim
  · rename_i b
    cases VR.inv_raw hx
    cases op <;> simp only [] at h
    case not => refine Y.of h (VR.raw rfl) fun w' => ?_; simp [Op.unary]
    all_goals exact h.elim
  · exact h.elim

theorem PR.sub {l : List PV} {A : Option Addr} {n c lo hi m sz : Nat} (h : PR F w (.lst l) (.slice A n c)) (h1 : lo ≤ hi) (h2 : hi ≤ l.length) (h3 : hi ≤ m) (hz : lo = 0 ∨ ∀ y, l[0]? = some y → y.cs.length = sz) :
    PR F w (.lst ((l.take hi).drop lo)) (.slice (if m = lo then A else A.map (·.add (lo * sz))) (hi - lo) (m - lo)) := by
  by_cases he : hi = lo
  · subst he
    have : (l.take hi).drop hi = [] := List.drop_eq_nil_of_le (by simp [List.length_take]; omega)
    rw [this, Nat.sub_self]
    exact .nil _ _
  · rw [if_neg (by omega)]
    cases h with
    | nil => simp at h2; omega
    | lst l r off c sz' n vals hF hn hc hs hv hp =>
      have hmul : lo * sz = lo * sz' := by
        rcases hz with e | hz
        · simp [e]
        · have h0 : 0 < l.length := by omega
          have := hz _ (List.getElem?_eq_getElem h0)
          rw [← this, ← (hs 0 _ (List.getElem?_eq_getElem h0)).1]
      have hget : ∀ (i : Nat) (x : PV), ((l.take hi).drop lo)[i]? = some x → l[lo + i]? = some x := fun i x hx => by
        rw [List.getElem?_drop, List.getElem?_take] at hx
        split at hx
        · exact hx
        · cases hx
      show PR F w _ (.slice (some ((⟨r, off, none⟩ : Addr).add (lo * sz))) (hi - lo) (m - lo))
      rw [Addr.add_mid, hmul]
      refine .lst _ r (off + lo * sz') (m - lo) sz' (hi - lo) (fun k => vals (lo * sz' + k)) hF (by simp [List.length_drop, List.length_take]; omega) (by omega) (fun i x hx => hs _ x (hget i x hx)) (fun i x j y hx hy => ?_) (fun i x j y hx hy => ?_)
      · have := hv _ x j y (hget i x hx) hy
        rw [Nat.add_mul, Nat.add_assoc] at this
        rwa [Nat.add_assoc]
      · have := hp _ x j y (hget i x hx) hy
        rwa [Nat.add_mul, Nat.add_assoc] at this

theorem oInt_ok {d : Int} {x : Option AV} {v : Option Value} {i : Int} (hv : ∀ u, v = some u → ∃ y, x = some y ∧ VR F ι w y u) (hn : v = none → x = none) (h : oInt d x = some i) :
    (v = none ∧ i = d) ∨ ∃ k, v = some (.int k i) := by
  cases v with
  | none => rw [hn rfl] at h; simp [oInt] at h; exact .inl ⟨rfl, h.symm⟩
  | some u =>
    obtain ⟨y, rfl, hy⟩ := hv u rfl
    unfold oInt at h
    split at h
    · rename_i e; cases e
    · rename_i k j e
      cases e
      cases VR.inv_raw hy
      cases h
      exact .inr ⟨k, rfl⟩
    · cases h

theorem run_sliceBound {k : IntKind} {i : Int} {y : Nat} {code : BoundsCode} (h0 : 0 ≤ i) (h1 : i ≤ y) (w' : World) : (Instr.sliceBound (.int k i) y code).run P w' = .ok i.toNat w' := by
  simp [Instr.sliceBound, asIntOf, h0, h1]

theorem run_bounds {isS : Bool} {n c : Nat} {lo hi mx : Option Value} {l h m : Int} (hl : (lo = none ∧ l = 0) ∨ ∃ k, lo = some (.int k l)) (hh : (hi = none ∧ h = n) ∨ ∃ k, hi = some (.int k h))
    (hm : (mx = none ∧ m = c) ∨ ∃ k k', mx = some (.int k m) ∧ hi = some (.int k' h)) (h0 : 0 ≤ l) (h1 : l ≤ h) (h2 : h ≤ m) (h3 : m ≤ c) (w' : World) :
    (Instr.sliceBounds isS n c lo hi mx).run P w' = .ok (l.toNat, h.toNat, m.toNat) w' := by
  rcases hm with ⟨rfl, rfl⟩ | ⟨k, k', rfl, rfl⟩
  · rcases hh with ⟨rfl, rfl⟩ | ⟨k', rfl⟩
    · rcases hl with ⟨rfl, rfl⟩ | ⟨k'', rfl⟩
      · simp [Instr.sliceBounds]
      · simp [Instr.sliceBounds, run_sliceBound h0 h1]
    · rcases hl with ⟨rfl, rfl⟩ | ⟨k'', rfl⟩
      · simp [Instr.sliceBounds, run_sliceBound (show 0 ≤ h by omega) h2]
      · simp [Instr.sliceBounds, run_sliceBound (show 0 ≤ h by omega) h2, run_sliceBound h0 (show l ≤ (h.toNat : Int) by omega)]
  · rcases hl with ⟨rfl, rfl⟩ | ⟨k'', rfl⟩
    · simp [Instr.sliceBounds, run_sliceBound (show 0 ≤ m by omega) h3, run_sliceBound (show 0 ≤ h by omega) (show h ≤ (m.toNat : Int) by omega)]
    · simp [Instr.sliceBounds, run_sliceBound (show 0 ≤ m by omega) h3, run_sliceBound (show 0 ≤ h by omega) (show h ≤ (m.toNat : Int) by omega), run_sliceBound h0 (show l ≤ (h.toNat : Int) by omega)]

section
variable {lo hi mx : Option Operand}
theorem omap_v (x : Option Operand) (h : ∀ y, VR F ι w (ev fr y) (a.eval y)) : (∀ u, x.map a.eval = some u → ∃ y, x.map (ev fr) = some y ∧ VR F ι w y u) ∧ (x.map a.eval = none → x.map (ev fr) = none) := by
  cases x with
  | none => exact ⟨fun u hu => (by cases hu), fun _ => rfl⟩
  | some y => exact ⟨fun u hu => (by cases hu; exact ⟨_, rfl, h y⟩), fun hu => (by cases hu)⟩

theorem run_sliceAt {T e : TypeId} {A : Option Addr} {n c : Nat} {lo hi mx : Option Value} {l h m : Int} (hu : P.underlying T = some (.slice e)) (hi' : ∃ i, P.info? e = some i)
    (hb : ∀ w', (Instr.sliceBounds true n c lo hi mx).run P w' = .ok (l.toNat, h.toNat, m.toNat) w') (w' : World) :
    (Instr.sliceAt T (.slice A n c) lo hi mx).run P w' = .ok (.slice (if m.toNat = l.toNat then A else A.map (·.add (l.toNat * szOf P e))) (h.toNat - l.toNat) (m.toNat - l.toNat)) w' := by
  simp [Instr.sliceAt, Instr.slice, run_underlying hu, hb, run_sizeOf_cells hi']

theorem sliceL_ok {T e : TypeId} {x : List PV} {A : Option Addr} {n c : Nat} (hev : ∀ y, VR F ι w (ev fr y) (a.eval y)) (hu : P.underlying T = some (.slice e)) (hz : szOf P e ≠ 0) (hx : PR F w (.lst x) (.slice A n c))
    (h : sliceLK P e K x (oInt 0 (lo.map (ev fr))) (oInt x.length (hi.map (ev fr))) (mx.map (ev fr)) (hi.map (ev fr)).isSome) : Y P F ι σ wr_ w K (Instr.sliceAt T (.slice A n c) (lo.map a.eval) (hi.map a.eval) (mx.map a.eval)) := by
  have hi' : ∃ i, P.info? e = some i := by
    unfold szOf Program.cellsOf at hz
    cases hi : P.info? e with
    | none => simp [hi] at hz
    | some i => exact ⟨i, rfl⟩
  have hn := hx.len
  have hnc : n ≤ c := by
    cases hx with
    | nil => omega
    | lst l r off c sz n vals hF hn hc => exact hc
  unfold sliceLK at h
  split at h
  · rename_i l h' el eh em
    obtain ⟨⟨h0, h1, h2⟩, hf, hk⟩ := h
    have ol := oInt_ok (omap_v lo hev).1 (omap_v lo hev).2 el
    have oh := oInt_ok (omap_v hi hev).1 (omap_v hi hev).2 eh
    have om : mx = none := by
      cases mx with
      | none => rfl
      | some _ => simp at em
    subst om
    have hsub := PR.sub (sz := szOf P e) (m := c) hx (show l.toNat ≤ h'.toNat by omega) (by omega) (by omega) (hf.imp (by omega) id)
    refine Y.of hk (.p _ _ hsub) fun w' => ?_
    have := run_sliceAt (P := P) (A := A) (m := (c : Int)) hu hi' (run_bounds (isS := true) (n := n) (c := c) ol (by rw [hn]; exact oh) (.inl ⟨rfl, rfl⟩) h0 h1 (by omega) (by omega)) w'
    simpa using this
  · rename_i l h' k m el eh em
    cases hi with
    | none => exact h.elim
    | some oh' =>
    obtain ⟨⟨h0, h1, h2, h3⟩, hf, hk⟩ := h
    subst h2
    have ol := oInt_ok (omap_v lo hev).1 (omap_v lo hev).2 el
    cases mx with
    | none => simp at em
    | some om =>
      have em' : ev fr om = .p (.raw (.int k h')) := by simpa using em
      have hm := hev om
      rw [em'] at hm
      have hm' := VR.inv_raw hm
      have hsub := PR.sub (sz := szOf P e) (m := h'.toNat) hx (show l.toNat ≤ h'.toNat by omega) (by omega) (Nat.le_refl _) (hf.imp (by omega) id)
      rcases oInt_ok (omap_v (some oh') hev).1 (omap_v (some oh') hev).2 eh with ⟨e1, _⟩ | ⟨k', e1⟩
      · cases e1
      · refine Y.of hk (.tl _ _ _ (by simp [List.length_drop, List.length_take]; omega) hsub) fun w' => ?_
        exact run_sliceAt (P := P) (A := A) (m := h') hu hi' (run_bounds (isS := true) (n := n) (c := c) ol (.inr ⟨k', e1⟩) (.inr ⟨k, k', by simp [hm'], e1⟩) h0 h1 (Int.le_refl _) (by omega)) w'
  · exact h.elim
end

section
variable {lo hi mx : Option Operand}
theorem sliceK_ok {T : TypeId} {x : AV} {u : Value} (hev : ∀ y, VR F ι w (ev fr y) (a.eval y)) (hx : VR F ι w x u) (h : sliceK P T K x (lo.map (ev fr)) (hi.map (ev fr)) (mx.map (ev fr))) :
    Y P F ι σ wr_ w K (Instr.sliceAt T u (lo.map a.eval) (hi.map a.eval) (mx.map a.eval)) := by
  unfold sliceK at h
  split at h
  · rename_i s hu
    cases VR.inv_raw hx
    split at h
    · rename_i l h' em el eh
      have om : mx = none := by
        cases mx with
        | none => rfl
        | some _ => simp at em
      subst om
      have ol := oInt_ok (omap_v lo hev).1 (omap_v lo hev).2 el
      have oh := oInt_ok (omap_v hi hev).1 (omap_v hi hev).2 eh
      refine Y.of h.2 (VR.raw rfl) fun w' => ?_
      have := run_bounds (P := P) (isS := false) (n := s.size) (c := s.size) (m := (s.size : Int)) ol oh (.inl ⟨rfl, rfl⟩) h.1.1 h.1.2.1 h.1.2.2 (Int.le_refl _) w'
      simp at this
      simp [Instr.sliceAt, Instr.slice, run_underlying hu, this]
    · exact h.elim
  · rename_i e x hu
    cases hz : Nat.beq (szOf P e) 0 with
    | true => rw [hz] at h; exact h.elim
    | false =>
      rw [hz] at h
      have hne : szOf P e ≠ 0 := fun e1 => by rw [e1] at hz; cases hz
      cases hx with
      | p _ _ hv =>
        obtain ⟨A, n, c, rfl⟩ : ∃ A n c, u = .slice A n c := by cases hv <;> exact ⟨_, _, _, rfl⟩
        exact sliceL_ok hev hu hne hv h
  · rename_i e x hu
    cases hz : Nat.beq (szOf P e) 0 with
    | true => rw [hz] at h; exact h.elim
    | false =>
      rw [hz] at h
      have hne : szOf P e ≠ 0 := fun e1 => by rw [e1] at hz; cases hz
      cases hx with
      | tl _ A n hn hv => exact sliceL_ok hev hu hne hv h
  · rename_i e b sz o n hu
    split at h
    · rename_i l h' el eh em
      cases hz : Nat.beq sz (szOf P e) with
      | false => rw [hz] at h; exact h.elim
      | true =>
        rw [hz] at h
        have e1 := Nat.eq_of_beq_eq_true hz
        subst e1
        simp only [cond_true] at h
        cases hz2 : Nat.beq (szOf P e) 0 with
        | true => rw [hz2] at h; exact h.elim
        | false =>
          rw [hz2] at h
          have hne : szOf P e ≠ 0 := fun e1 => by rw [e1] at hz2; cases hz2
          have hi' : ∃ i, P.info? e = some i := by
            unfold szOf Program.cellsOf at hne
            cases hi : P.info? e with
            | none => simp [hi] at hne
            | some i => exact ⟨i, rfl⟩
          have om : mx = none := by
            cases mx with
            | none => rfl
            | some _ => simp at em
          subst om
          obtain ⟨⟨h0, h1, h2⟩, hk⟩ := h
          have ol := oInt_ok (omap_v lo hev).1 (omap_v lo hev).2 el
          have oh := oInt_ok (omap_v hi hev).1 (omap_v hi hev).2 eh
          cases hx with
          | row b sz o n r β c N hι hN hn hc =>
            have hrun := fun w' => run_sliceAt (P := P) (A := some ⟨r, β + o * szOf P e, none⟩) (m := (c : Int)) hu hi' (run_bounds (isS := true) (n := n) (c := c) ol oh (.inl ⟨rfl, rfl⟩) h0 h1 (by omega) (by omega)) w'
            by_cases hcl : c = l.toNat
            · refine Y.of (v := .slice (some ⟨r, β + o * szOf P e, none⟩) 0 0) hk ?_ fun w' => ((hrun w').trans ?_)
              · have e2 : (h' - l).toNat = 0 := by omega
                rw [e2]
                exact .row0 _ _ _ (some ⟨r, β + o * szOf P e, none⟩)
              · simp [hcl]
                omega
            · refine Y.of (v := .slice (some ⟨r, β + (o + l.toNat) * szOf P e, none⟩) (h' - l).toNat (c - l.toNat)) hk (.row b _ (o + l.toNat) (h' - l).toNat r β (c - l.toNat) N hι hN (by omega) (by
                have : o + l.toNat + (c - l.toNat) = o + c := by omega
                rw [this]; exact hc)) fun w' => ((hrun w').trans ?_)
              have e2 : h'.toNat - l.toNat = (h' - l).toNat := by omega
              simp [hcl, Addr.add_mid, Nat.add_mul, Nat.add_assoc, e2]
          | row0 b sz o A =>
            have hrun := fun w' => run_sliceAt (P := P) (A := A) (m := ((0 : Nat) : Int)) hu hi' (run_bounds (isS := true) (n := 0) (c := 0) ol oh (.inl ⟨rfl, rfl⟩) h0 h1 (by omega) (by omega)) w'
            have e0 : l = 0 := by omega
            have e1 : h' = 0 := by omega
            subst e0; subst e1
            refine Y.of hk (.row0 _ _ _ A) fun w' => ((hrun w').trans ?_)
            simp
    · exact h.elim
  · exact h.elim
end

theorem run_equal_bool {T : TypeId} (hu : P.underlying T = some .bool) (x y : Bool) (w' : World) : (Op.equal T (.bool x) (.bool y)).run P w' = .ok (x == y) w' := by
  have e9 : Op.maxDepth = 9999 + 1 := rfl
  unfold Op.equal
  rw [e9]
  generalize 9999 = n9
  simp only [Op.equalIn, Sem.run_bind, run_underlying hu, Result.andThen_ok, Sem.run_pure, Option.isNone_none]
theorem run_equal_nilr {T e : TypeId} (hu : P.underlying T = some (.pointer e)) (x : Addr) (w' : World) : (Op.equal T (.pointer (some x)) (.pointer none)).run P w' = .ok false w' := by
  have e9 : Op.maxDepth = 9999 + 1 := rfl
  unfold Op.equal
  rw [e9]
  generalize 9999 = n9
  simp only [Op.equalIn, Sem.run_bind, run_underlying hu, Result.andThen_ok, Sem.run_pure, Option.isNone_none]
theorem run_equal_nil2 {T e : TypeId} (hu : P.underlying T = some (.pointer e)) (w' : World) : (Op.equal T (.pointer none) (.pointer none)).run P w' = .ok true w' := by
  have e9 : Op.maxDepth = 9999 + 1 := rfl
  unfold Op.equal
  rw [e9]
  generalize 9999 = n9
  simp only [Op.equalIn, Sem.run_bind, run_underlying hu, Result.andThen_ok, Sem.run_pure, Option.isNone_none]

theorem run_equal_same {T e : TypeId} {j : TypeInfo} (hu : P.underlying T = some (.pointer e)) (hj : P.info? e = some j) (x : Addr) (w' : World) : (Op.equal T (.pointer (some x)) (.pointer (some x))).run P w' = .ok true w' := by
  have e9 : Op.maxDepth = 9999 + 1 := rfl
  unfold Op.equal
  rw [e9]
  generalize 9999 = n9
  simp [Op.equalIn, run_underlying hu, sizeOf, typeInfo, hj, run_sameAddr_same]

theorem binK_ok {op : BinOp} {T : TypeId} {x y : AV} {u v : Value} {ox oy : Operand} (hx : VR F ι w x u) (hy : VR F ι w y v) (h : binK P op T K x y) :
    Y P F ι σ wr_ w K (do eqGuard op T ox oy u v; binOp op T u v) := by
  unfold binK at h
  split at h
  · exact bin_ok hx hy h
  · exact bin_ok hx hy h
  · have hq : ∀ (neg : Bool), (op = if neg then .neq else .eql) → eqK P T neg K x y → Y P F ι σ wr_ w K (do eqGuard op T ox oy u v; binOp op T u v) := by
      intro neg hop hk
      unfold eqK at hk
      split at hk
      · rename_i hu
        split at hk
        · rename_i p q
          cases VR.inv_raw hx
          cases VR.inv_raw hy
          refine Y.of hk (VR.raw rfl) fun w' => ?_
          cases neg <;> subst hop <;> simp [eqGuard, Go.binOp, run_equal_bool hu]
        · exact hk.elim
      · rename_i e hu
        split at hk
        · cases hy with
          | p _ _ hy =>
            cases hy
            cases hx
            refine Y.of hk (VR.raw rfl) fun w' => ?_
            cases neg <;> subst hop <;> simp [eqGuard, Go.binOp, run_equal_nilr hu]
        · cases hy with
          | p _ _ hy =>
            cases hy
            cases hx
            refine Y.of hk (VR.raw rfl) fun w' => ?_
            cases neg <;> subst hop <;> simp [eqGuard, Go.binOp, run_equal_nilr hu]
        · cases hy with
          | p _ _ hy =>
            cases hy
            cases hx
            refine Y.of hk (VR.raw rfl) fun w' => ?_
            cases neg <;> subst hop <;> simp [eqGuard, Go.binOp, run_equal_nilr hu]
        · cases hy with
          | p _ _ hy =>
            cases hy
            cases hx with
            | p _ _ hx =>
              rcases hk with ⟨rfl, hk⟩ | ⟨z, rfl, hk⟩
              · cases hx
                refine Y.of hk (VR.raw rfl) fun w' => ?_
                cases neg <;> subst hop <;> simp [eqGuard, Go.binOp, run_equal_nil2 hu]
              · cases hx
                refine Y.of hk (VR.raw rfl) fun w' => ?_
                cases neg <;> subst hop <;> simp [eqGuard, Go.binOp, run_equal_nilr hu]
        · rename_i b o b' o'
          split at hk
          · rename_i e1 e2 e3
            have e1 := Nat.eq_of_beq_eq_true e1
            have e2 := Nat.eq_of_beq_eq_true e2
            subst e1
            subst e2
            obtain ⟨j, hj⟩ := Option.isSome_iff_exists.mp e3
            cases hx with
            | ptr _ _ r hr =>
              cases hy with
              | ptr _ _ r' hr' =>
                rw [hr] at hr'
                cases hr'
                refine Y.of hk (VR.raw rfl) fun w' => ?_
                cases neg <;> subst hop <;> simp [eqGuard, Go.binOp, run_equal_same hu hj]
          · exact hk.elim
        · exact hk.elim
      · exact hk.elim
    cases op <;> simp only [] at h
    case eql => exact hq false rfl h
    case neq => exact hq true rfl h
    all_goals exact h.elim

theorem mxK_ok {x y : AV} {u v : Value} {mn : Bool} (hx : VR F ι w x u) (hy : VR F ι w y v) (h : mxK K mn [x, y]) (ty : TypeId) (ts : Array TypeId) :
    Y P F ι σ wr_ w K (match mn with | true => Builtin.min_ ts ty #[u, v] | false => Builtin.max_ ts ty #[u, v]) := by
  unfold mxK at h
  split at h
  · rename_i p q e
    cases e
    cases VR.inv_raw hx
    cases VR.inv_raw hy
    refine Y.of h (VR.raw rfl) fun w' => ?_
    cases mn <;> simp [Builtin.min_, Builtin.max_, Builtin.min2, Builtin.max2]
  · exact h.elim

/-- The elements l lie from cell o of block r on, in every world that is as here. -/
structure Lies (F : Nat → Prop) (ι : Loc) (σ : Sto) (wr_ : List Nat) (w : World) (l : List PV) (r o sz : Nat) : Prop where
  fit : ∀ (i : Nat) (x : PV), l[i]? = some x → PV.fit sz x
  cell : ∀ (i : Nat) (x : PV) (j : Nat) (y : PV), l[i]? = some x → x.cs[j]? = some y → ∃ v, PR F w y v ∧ ∀ w', Same F ι σ wr_ w w' → w'.cell? ⟨r, o + (i * sz + j), none⟩ = some v

theorem asL_ok {x : AV} {u : Value} {K : List PV → Prop} (hs : SR F ι w σ) (hx : VR F ι w x u) (h : asLK σ wr_ K x) :
    ∃ l, K l ∧ ∃ A c, u = .slice A l.length c ∧ (l ≠ [] → ∃ r o sz, A = some ⟨r, o, none⟩ ∧ Lies F ι σ wr_ w l r o sz) := by
  have hpr : ∀ {l : List PV} {u : Value}, PR F w (.lst l) u → ∃ A c, u = .slice A l.length c ∧ (l ≠ [] → ∃ r o sz, A = some ⟨r, o, none⟩ ∧ Lies F ι σ wr_ w l r o sz) := by
    intro l u h
    cases h with
    | nil A c => exact ⟨A, c, rfl, fun h => absurd rfl h⟩
    | lst l r off c sz n vals hF hn hc hs hv hp =>
      subst hn
      exact ⟨_, c, rfl, fun _ => ⟨r, off, sz, rfl, hs, fun i x j y h1 h2 => ⟨_, hp i x j y h1 h2, fun w' hw' => (cell_block (hw'.1 r hF)).trans (hv i x j y h1 h2)⟩⟩⟩
  unfold asLK at h
  split at h
  · cases hx with
    | p _ _ hv => exact ⟨_, h, hpr hv⟩
  · cases hx with
    | tl _ A n hn hv => exact ⟨_, h, hpr hv⟩
  · rename_i b sz o n
    cases hm : memN b wr_ with
    | true => rw [hm] at h; exact h.elim
    | false =>
      rw [hm] at h
      simp only [cond_false] at h
      have key : ∀ (T0 : TypeId) (sz' : Nat) (q : List PV) (hc : ∀ p, BR F ι w (at_ σ b) p → RowAt F w T0 sz' q p) (hsame : ∀ r β, ι b = some (r, β) → ∀ w', Same F ι σ wr_ w w' → w'.heap[r]? = w.heap[r]?),
          (bif Nat.beq sz sz' then ∃ l, (o + n ≤ q.length ∧ (q.drop o).take n = l) ∧ K l else False) → ∃ l, K l ∧ ∃ A c, u = .slice A l.length c ∧ (l ≠ [] → ∃ r o sz, A = some ⟨r, o, none⟩ ∧ Lies F ι σ wr_ w l r o sz) := by
        intro T0 sz' q hq hsame h
        cases hz : Nat.beq sz sz' with
        | false => rw [hz] at h; exact h.elim
        | true =>
          rw [hz] at h
          have := Nat.eq_of_beq_eq_true hz
          subst this
          obtain ⟨_, ⟨hne, rfl⟩, h⟩ := h
          refine ⟨_, h, ?_⟩
          cases hx with
          | row0 b sz o A =>
            refine ⟨A, 0, by simp, fun h => absurd (by simp) h⟩
          | row b sz o n r β c N hι hN hn hc =>
            have hb := hq _ (hs.bk b)
            rw [hι] at hb
            obtain ⟨cs, hh, hl, hfit, hp⟩ := hb
            have hlen : ((q.drop o).take n).length = n := by simp [List.length_take, List.length_drop]; omega
            refine ⟨_, c, by rw [hlen], fun _ => ⟨r, β + o * sz, sz, rfl, ?_, ?_⟩⟩
            · intro i x hx
              rw [List.getElem?_take] at hx
              split at hx
              · rw [List.getElem?_drop] at hx; exact hfit _ x hx
              · cases hx
            · intro i x j y hx hy
              have hx2 : q[o + i]? = some x := by
                rw [List.getElem?_take] at hx
                split at hx
                · rwa [List.getElem?_drop] at hx
                · cases hx
              have hlt := (List.getElem?_eq_some_iff.mp hx2).1
              have hf := hfit _ x hx2
              have hj2 := (List.getElem?_eq_some_iff.mp hy).1
              have hle : (o + i + 1) * sz ≤ q.length * sz := Nat.mul_le_mul_right _ hlt
              rw [Nat.add_mul, Nat.one_mul] at hle
              obtain ⟨v, hv⟩ : ∃ v, cs[β + ((o + i) * sz + j)]? = some v := ⟨_, Array.getElem?_eq_getElem (by have := hf.1; omega)⟩
              refine ⟨v, hp _ x j y v hx2 hy hv, fun w' hw' => ?_⟩
              have e2 := hsame r β hι w' hw'
              rw [cell_block e2]
              have e3 : β + o * sz + (i * sz + j) = β + ((o + i) * sz + j) := by rw [Nat.add_mul]; omega
              simp [World.cell?, hh, e3, hv]
      split at h
      · rename_i T0 sz' q hq
        exact key T0 sz' q (fun p hp => by rw [hq] at hp; exact hp) (fun r β hι w' hw' => hw'.2 b r β (by rw [hq]; rfl) hm hι) h
      · rename_i T0 sz' q hq
        exact key T0 sz' q (fun p hp => by rw [hq] at hp; exact hp.1) (fun r β hι w' hw' => by
          have hb := hs.bk b
          rw [hq] at hb
          exact hw'.1 r (hb.2 r β hι)) h
      · rename_i T0 sz' q hq
        exact key T0 sz' q (fun p hp => by rw [hq] at hp; exact hp) (fun r β hι w' hw' => hw'.2 b r β (by rw [hq]; rfl) hm hι) h
      · exact h.elim
  · exact h.elim

theorem sdK_ok {x : AV} {u : Value} (hx : VR F ι w x u) (h : sdK K x) (ts : Array TypeId) (ty : TypeId) : Y P F ι σ wr_ w K (Builtin.unsafeSliceData_ ts ty #[u]) := by
  unfold sdK at h
  split at h
  · rename_i b sz o n
    obtain ⟨h0, h⟩ := h
    cases hx with
    | row b sz o n r β c N hι hN hn hc =>
      exact Y.of h (.el b sz o 0 r β hι) fun w' => Lib.run_unsafeSliceData_row w' ts ty ⟨r, β + o * sz, none⟩ n c (by omega)
    | row0 => omega
  · exact h.elim
theorem convK_ok {sT dT : TypeId} {x : AV} {u : Value} (hs : SR F ι w σ) (hx : VR F ι w x u) (h : convK P sT dT σ wr_ K x) : Y P F ι σ wr_ w K (convert sT dT u) := by
  unfold convK at h
  split at h
  · rename_i k0 k h1 h2
    split at h
    · rename_i k' n
      cases VR.inv_raw hx
      refine Y.of h (VR.raw rfl) fun w' => ?_
      simp [convert, run_underlying h1, run_underlying h2, Conv.intToInt, wr_eq]
    · exact h.elim
  · rename_i h1 h2
    split at h
    · cases VR.inv_raw hx
      refine Y.of h (VR.raw rfl) fun w' => ?_
      simp [convert, run_underlying h1, run_underlying h2]
    · exact h.elim
  · rename_i e h1 h2
    split at h
    · rename_i h3
      obtain ⟨l, ⟨s, hl, hk⟩, A, c, rfl, hlie⟩ := asL_ok hs hx h
      refine ⟨_, .string s, hk, VR.raw rfl, fun w' hw' => ?_⟩
      have hlen : l.length = s.data.toList.length := by rw [hl]; simp [bytesL]
      by_cases he : l = []
      · have hs0 : s.data.toList = [] := List.length_eq_zero_iff.mp (by rw [← hlen, he]; rfl)
        have hse : s = ByteArray.empty := by
          cases s with
          | mk d => congr 1; exact Array.toList_eq_nil_iff.mp hs0
        rw [run_convert_bytes_string w' sT dT e A _ c h1 h3 h2, he]
        cases A with
        | none => simp [Conv.bytesToString, hse]
        | some ad => simp [Conv.bytesToString, loadCells, loadCellsFrom, hse]
      · obtain ⟨r, o, sz, rfl, hL⟩ := hlie he
        have hsz : sz = 1 := by
          cases l with
          | nil => exact absurd rfl he
          | cons x l =>
            have := (hL.fit 0 x rfl).1
            have hx' : x ∈ bytesL s := by rw [← hl]; simp
            obtain ⟨b, _, rfl⟩ := List.mem_map.mp hx'
            simpa [PV.cs] using this.symm
        subst hsz
        rw [hlen, run_convert_bytes_back w' sT dT e ⟨r, o, none⟩ c s.data.toList h1 h3 h2 (fun j hj => ?_)]
        rw [Addr.add_mid]
        have hj1 : l[j]? = some (.raw (.int .u8 ((s.data.toList[j]).toNat : Int))) := by
          rw [hl]; simp [bytesL, List.getElem?_map, List.getElem?_eq_getElem hj]
        obtain ⟨v, hv1, hv2⟩ := hL.cell j _ 0 _ hj1 rfl
        have := hv2 w' hw'
        cases hv1
        simpa using this
    · exact h.elim
  · rename_i t h1 h2
    split at h
    · rename_i b o
      rw [Bool.cond_eq_ite] at h
      split at h
      · exact h.elim
      rename_i hm
      simp only [Bool.not_eq_true] at hm
      split at h
      · rename_i T c j hq hj
        split at h
        · rename_i k0 k1
          have hb := hs.bk b
          rw [hq] at hb
          obtain ⟨r, cs, hr, hh, hc, _, _⟩ := hb
          cases hx with
          | ptr _ _ r' hr' =>
            rw [hr] at hr'
            cases hr'
            refine ⟨_, _, h, .ptr b o r hr, fun w' hw' => ?_⟩
            have hh' : w'.heap[r]? = some (.cells cs T (0, 0)) := (hw'.2 b r 0 (by rw [hq]; rfl) hm hr).trans hh
            exact Lib.run_to_unsafe (P := P) (e := T) (cells := cs.size) w' ⟨r, o, none⟩ h1 h2 hj (fun e => by rw [e] at k0; cases k0) (by simp [World.shape?, hh']) (by rw [hc]; exact Nat.le_of_ble_eq_true k1)
        · exact h.elim
      · exact h.elim
    · exact h.elim
  · rename_i u h1 h2
    split at h
    · rename_i b o
      rw [Bool.cond_eq_ite] at h
      split at h
      · exact h.elim
      rename_i hm
      simp only [Bool.not_eq_true] at hm
      split at h
      · rename_i T c hq hj
        obtain ⟨hl, h⟩ := h
        obtain ⟨j, hj⟩ := Option.isSome_iff_exists.mp hj
        have hb := hs.bk b
        rw [hq] at hb
        obtain ⟨r, cs, hr, hh, hc, _, _⟩ := hb
        cases hx with
        | ptr _ _ r' hr' =>
          rw [hr] at hr'
          cases hr'
          refine ⟨_, _, h, .ptr b o r hr, fun w' hw' => ?_⟩
          have hh' : w'.heap[r]? = some (.cells cs T (0, 0)) := (hw'.2 b r 0 (by rw [hq]; rfl) hm hr).trans hh
          exact Lib.run_from_unsafe (P := P) (e := T) (cells := cs.size) w' ⟨r, o, none⟩ h1 h2 hj (by simp [World.shape?, hh']) (by rw [hc]; exact hl)
      · exact h.elim
    · exact h.elim
  · exact h.elim

/-- What an operation that leaves memory alone comes to, wherever what may be read lies as here. -/
def Z (P : Program) (F : Nat → Prop) (ι : Loc) (σ : Sto) (wr_ : List Nat) (w : World) (K : AV → Prop) (a : Act) (o : Oper) : Prop :=
  ∃ x v, K x ∧ VR F ι w x v ∧ ∀ w', Same F ι σ wr_ w w' → (execOp a.eval o).run P w' = .ok (.value v) w'

theorem Z.of {o : Oper} {s : Sem Value} (h : Y P F ι σ wr_ w K s) (he : ∀ w' v, s.run P w' = .ok v w' → (execOp a.eval o).run P w' = .ok (.value v) w') : Z P F ι σ wr_ w K a o :=
  let ⟨x, v, hk, hv, hr⟩ := h
  ⟨x, v, hk, hv, fun w' hw' => he w' v (hr w' hw')⟩

theorem still_ok {o : Oper} (h : St cx F ι fr σ a w) (hs : still P fr σ wr_ K o.op) : Z P F ι σ wr_ w K a o := by
  have hev : ∀ y, VR F ι w (ev fr y) (a.eval y) := ev_ok h
  cases ho : o.op <;> rw [ho] at hs <;> simp only [still] at hs <;> try exact hs.elim
  case move x => exact ⟨_, _, hs, hev x, fun w' _ => by simp [execOp, ho]⟩
  case assign x => exact ⟨_, _, hs, hev x, fun w' _ => by simp [execOp, ho]⟩
  case pick c p q =>
    split at hs
    · rename_i t ht
      have hc := hev c
      rw [ht] at hc
      have hc' := VR.inv_raw hc
      cases t with
      | true => exact ⟨_, _, hs.1 rfl, hev p, fun w' _ => by simp [execOp, ho, hc', asBool]⟩
      | false => exact ⟨_, _, hs.2 rfl, hev q, fun w' _ => by simp [execOp, ho, hc', asBool]⟩
    · exact hs.elim
  case binOp op T x y yT => exact Z.of (binK_ok (ox := x) (oy := y) (hev x) (hev y) hs) fun w' v hr => by simp only [execOp, ho]; rw [Sem.run_bind, hr]; rfl
  case unOp op T x => exact Z.of (unK_ok (hev x) hs) fun w' v hr => by simp only [execOp, ho]; rw [Sem.run_bind, hr]; rfl
  case load T x => exact Z.of (loadK_ok h.sr (hev x) hs) fun w' v hr => by simp only [execOp, ho]; rw [Sem.run_bind, hr]; rfl
  case fieldAddr T x f => exact Z.of (fieldK_ok (hev x) hs) fun w' v hr => by simp only [execOp, ho]; rw [Sem.run_bind, hr]; rfl
  case indexAddr T x i => exact Z.of (indexK_ok h.sr (hev x) (hev i) hs) fun w' v hr => by simp only [execOp, ho]; rw [Sem.run_bind, hr]; rfl
  case index T x i => exact Z.of (chK_ok (hev x) (hev i) hs) fun w' v hr => by simp only [execOp, ho]; rw [Sem.run_bind, hr]; rfl
  case slice T x lo hi mx => exact Z.of (sliceK_ok hev (hev x) hs) fun w' v hr => by simp only [execOp, ho]; rw [Sem.run_bind, hr]; rfl
  case nilCheck x => exact nilK_ok ho rfl (hev x) hs
  case extract x i =>
    split at hs
    · rename_i l hl
      have hx := hev x
      rw [hl] at hx
      rw [nth_eq] at hs
      cases hi : l[i]? with
      | none => rw [hi] at hs; exact hs.elim
      | some y =>
        rw [hi] at hs
        generalize hg : a.eval x = u at hx
        cases hx with
        | tup _ vs hlen hp =>
          obtain ⟨v, hv⟩ : ∃ v, vs[i]? = some v := ⟨_, List.getElem?_eq_getElem (by have := (List.getElem?_eq_some_iff.mp hi).1; omega)⟩
          exact ⟨y, v, hs, hp i y v hi hv, fun w' _ => by simp [execOp, ho, hg, Instr.extract, hv]⟩
    · exact hs.elim
  case convert s d x => exact Z.of (convK_ok h.sr (hev x) hs) fun w' v hr => by simp only [execOp, ho]; rw [Sem.run_bind, hr]; rfl
  case call c =>
    split at hs
    · rename_i x T hc ha ht
      have ha' : c.args = #[x] := by rw [← Array.toArray_toList (xs := c.args), ha]
      have ht' : c.argTypes = #[T] := by rw [← Array.toArray_toList (xs := c.argTypes), ht]
      have hr' : ∀ w' v, (Builtin.len_ #[T] o.type #[a.eval x]).run P w' = .ok v w' → (execOp a.eval o).run P w' = .ok (.value v) w' := fun w' v hr => by
        simp [execOp, ho, resolve, hc, ha', ht', invoke, builtin, hr]
      split at hs
      · rename_i hu; exact Z.of (lenS_ok hu (hev x) hs o.type) hr'
      · rename_i hu; exact Z.of (lenL_ok hu (hev x) hs o.type) hr'
      · exact hs.elim
    · rename_i ts x y hc ha
      have ha' : c.args = #[x, y] := by rw [← Array.toArray_toList (xs := c.args), ha]
      exact Z.of (mxK_ok (mn := false) (hev x) (hev y) hs o.type c.argTypes) fun w' v hr => by simp at hr; simp [execOp, ho, resolve, hc, ha', invoke, builtin, hr]
    · rename_i ts x y hc ha
      have ha' : c.args = #[x, y] := by rw [← Array.toArray_toList (xs := c.args), ha]
      exact Z.of (mxK_ok (mn := true) (hev x) (hev y) hs o.type c.argTypes) fun w' v hr => by simp at hr; simp [execOp, ho, resolve, hc, ha', invoke, builtin, hr]
    · rename_i ts x hc ha
      have ha' : c.args = #[x] := by rw [← Array.toArray_toList (xs := c.args), ha]
      exact Z.of (sdK_ok (hev x) hs c.argTypes o.type) fun w' v hr => by simp [execOp, ho, resolve, hc, ha', invoke, builtin, hr]
    · exact hs.elim
end
end Go.Proofs.Sy
