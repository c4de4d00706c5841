/- New variables, stores, what becomes pure. -/
import Derived.Test.YtnnalcglfgapbaaDoorSyD
import Derived.Deep.Upon
set_option linter.unusedVariables false
set_option linter.unusedSimpArgs false
namespace Go.Proofs.Sy
open Go Go.RowKit

def avCells : AV → Option (List AV)
  | .p (.agg l) => some (toAVs l)
  | .agg l => some l
  | .dead => none
  | .tup _ => none
  | x => some [x]
def cellVals : List Value → Option (List AV)
  | [] => some []
  | v :: r => match v.oneCell' with
    | true => match cellVals r with
      | some q => some (ofVal v :: q)
      | none => none
    | false => none
def zeroAV (P : Program) (T : TypeId) : Option (List AV) := match P.info? T with
  | some i => match i.zero with
    | some z => cellVals z.cells.toList
    | none => none
  | none => none

/-- Cells and what they stand for. -/
def CR (F : Nat → Prop) (ι : Loc) (w : World) (c : List AV) (vs : List Value) : Prop :=
  vs.length = c.length ∧ (∀ v ∈ vs, v.oneCell' = true) ∧ ∀ (j : Nat) x v, c[j]? = some x → vs[j]? = some v → VR F ι w x v

section
variable {P : Program} {cx : Cx} {F : Nat → Prop} {ι : Loc} {fr : Fr} {σ : Sto} {a : Act} {w w' : World}

theorem PR.allOne_of : ∀ {l : List PV} {vs : List Value}, vs.length = l.length → (∀ v ∈ vs, v.oneCell' = true) → (∀ (j : Nat) (y : PV) (v : Value), l[j]? = some y → vs[j]? = some v → PR F w y v) → allOne l = true
  | [], _, _, _, _ => rfl
  | x :: r, [], hl, _, _ => by simp at hl
  | x :: r, v :: vs, hl, h1, hp => by
    simp only [allOne, Bool.and_eq_true]
    refine ⟨?_, PR.allOne_of (l := r) (vs := vs) (by simpa using hl) (fun v hv => h1 v (by simp [hv])) (fun j y v hy hv => hp (j + 1) y v (by simpa using hy) (by simpa using hv))⟩
    have h2 := hp 0 x v rfl rfl
    have h3 := h1 v (by simp)
    cases h2 with
    | raw => rfl
    | nil => rfl
    | lst => rfl
    | agg => simp [Value.oneCell'] at h3
    | bn => rfl
    | bx => rfl

theorem cells_one {v : Value} (h : v.oneCell' = true) : v.cells = #[v] := by cases v <;> simp_all [Value.oneCell', Value.cells]

theorem CR.single {x : AV} {v : Value} (h : VR F ι w x v) (h1 : v.oneCell' = true) : CR F ι w [x] v.cells.toList := by
  rw [cells_one h1]
  refine ⟨rfl, by simpa using h1, fun j y u hy hu => ?_⟩
  cases j with
  | zero => simp at hy hu; subst hy; subst hu; exact h
  | succ j => simp at hy

theorem avCells_ok {x : AV} {v : Value} {c : List AV} (h : VR F ι w x v) (hc : avCells x = some c) : CR F ι w c v.cells.toList := by
  cases h with
  | dead => cases hc
  | p x v hv =>
    cases hv with
    | raw v h1 => cases hc; exact CR.single (.p _ _ (.raw v h1)) h1
    | nil A c => cases hc; exact CR.single (.p _ _ (.nil A c)) rfl
    | lst l r off c sz n vals a1 a2 a3 a4 a5 a6 => cases hc; exact CR.single (.p _ _ (.lst l r off c sz n vals a1 a2 a3 a4 a5 a6)) rfl
    | agg l vs hl h1 hp =>
      simp only [avCells, Option.some.injEq] at hc
      subst hc
      refine ⟨by simp [Value.cells, hl, toAVs_len], fun v hv => ?_, fun j x v hx hv' => ?_⟩
      · simp [Value.cells] at hv
        obtain ⟨j, hj⟩ := List.getElem?_of_mem hv
        obtain ⟨y, hy⟩ : ∃ y, l[j]? = some y := ⟨_, List.getElem?_eq_getElem (by have := (List.getElem?_eq_some_iff.mp hj).1; omega)⟩
        exact (hp j y v hy hj).oneCell (allOne_get h1 hy)
      · rw [toAVs_get] at hx
        obtain ⟨y, hy, rfl⟩ := Option.map_eq_some_iff.mp hx
        exact .p _ _ (hp j y v hy (by simpa [Value.cells] using hv'))
    | bn => cases hc; exact CR.single (.p _ _ .bn) rfl
    | bx x r o vals a1 a2 a3 a4 => cases hc; exact CR.single (.p _ _ (.bx x r o vals a1 a2 a3 a4)) rfl
  | tl l A n hn h => cases hc; exact CR.single (.tl l A n hn h) rfl
  | ptr b off r h => cases hc; exact CR.single (.ptr b off r h) rfl
  | el b sz i off r β h => cases hc; exact CR.single (.el b sz i off r β h) rfl
  | fp x off r o vals a1 a2 a3 a4 => cases hc; exact CR.single (.fp x off r o vals a1 a2 a3 a4) rfl
  | row b sz o n r β c N a1 a2 a3 a4 => cases hc; exact CR.single (.row b sz o n r β c N a1 a2 a3 a4) rfl
  | row0 b sz o A => cases hc; exact CR.single (.row0 b sz o A) rfl
  | agg l vs hl h1 hp =>
    cases hc
    exact ⟨by simpa [Value.cells] using hl, fun v hv => h1 v (by simpa [Value.cells] using hv), fun j x v hx hv => hp j x v hx (by simpa [Value.cells] using hv)⟩
  | tup => cases hc
  | mp b r h => cases hc; exact CR.single (.mp b r h) rfl
  | fn f l vs hl hp => cases hc; exact CR.single (.fn f l vs hl hp) rfl

theorem cellVals_ok : ∀ {vs : List Value} {c : List AV}, cellVals vs = some c → CR F ι w c vs
  | [], c, h => by simp [cellVals] at h; subst h; exact ⟨rfl, by simp, fun j x v hx => by simp at hx⟩
  | v :: r, c, h => by
    simp only [cellVals] at h
    cases h1 : v.oneCell' with
    | false => rw [h1] at h; cases h
    | true =>
      rw [h1] at h
      cases hq : cellVals r with
      | none => simp [hq] at h
      | some q =>
        simp [hq] at h
        subst h
        obtain ⟨e1, e2, e3⟩ := cellVals_ok hq
        refine ⟨by simp [e1], by simpa using ⟨h1, e2⟩, fun j x u hx hu => ?_⟩
        cases j with
        | zero => simp at hx hu; subst hx; subst hu; exact ofVal_ok F ι w v
        | succ j => exact e3 j x u (by simpa using hx) (by simpa using hu)

theorem below_alloc (o : Obj) : Below w.heap.size w (w.alloc o) :=
  ⟨rfl, rfl, rfl, (by show w.heap.size ≤ (w.heap.push o).size; simp), fun k hk => by
    show (w.heap.push o)[k]? = w.heap[k]?
    rw [Array.getElem?_push, if_neg (by omega)]⟩
theorem alloc_new (o : Obj) : (w.alloc o).heap[w.heap.size]? = some o := by
  show (w.heap.push o)[w.heap.size]? = some o
  simp
theorem alloc_size (o : Obj) : (w.alloc o).heap.size = w.heap.size + 1 := by
  show (w.heap.push o).size = _
  simp

/-- A new variable with these cells. -/
theorem St.newBox (h : St cx F ι fr σ a w) {c : List AV} {cs : Array Value} (T : TypeId) (hc : CR F ι w c cs.toList) :
    St cx F (put_ ι σ.length (some (w.heap.size, 0))) fr (σ ++ [.box T c]) a (w.alloc (.cells cs T)) ∧ VR F (put_ ι σ.length (some (w.heap.size, 0))) (w.alloc (.cells cs T)) (.ptr σ.length 0) (.pointer (some ⟨w.heap.size, 0, none⟩)) := by
  refine ⟨h.new (below_alloc _) rfl (by rw [alloc_size]; omega) ⟨w.heap.size, cs, rfl, alloc_new _, by simpa using hc.1, fun v hv => hc.2.1 v (by simpa using hv), fun j x v hx hv => ?_⟩, .ptr _ _ _ (put_self _ _ _)⟩
  refine (hc.2.2 j x v hx (by simpa using hv)).up h.inv.lt (below_alloc _) (fun c r hc => ?_)
  rw [put_ne _ _ (fun e => by subst e; rw [h.sr.top _ (Nat.le_refl _)] at hc; cases hc)]
  exact hc

theorem run_alloc {T : TypeId} {c : List AV} (h : zeroAV P T = some c) : ∃ z : Value, CR F ι w c z.cells.toList ∧ ∀ w', (Instr.alloc T true (.tuple #[])).run P w' = .ok (.pointer (some ⟨w'.heap.size, 0, none⟩)) (w'.alloc (.cells z.cells T)) := by
  unfold zeroAV at h
  split at h
  · rename_i i hi
    split at h
    · rename_i z hz
      refine ⟨z, cellVals_ok h, fun w' => ?_⟩
      simp [Instr.alloc, zeroValue, typeInfo, hi, hz, newVar, newRow, newObj, Sem.run]
    · cases h
  · cases h
theorem run_box {T : TypeId} (v : Value) (w' : World) : (Instr.box T v).run P w' = .ok (.pointer (some ⟨w'.heap.size, 0, none⟩)) (w'.alloc (.cells v.cells T)) := by
  simp [Instr.box, newVar, newRow, newObj, Sem.run]

/-- vs in the place of as many elements, from o on. -/
def spl {α : Type} : Nat → List α → List α → List α
  | 0, [], c => c
  | 0, v :: vs, _ :: c => v :: spl 0 vs c
  | 0, _ :: _, [] => []
  | n + 1, vs, x :: c => x :: spl n vs c
  | _ + 1, _, [] => []
theorem spl_len {α : Type} : ∀ (o : Nat) (vs c : List α), (spl o vs c).length = c.length
  | 0, [], c => by simp [spl]
  | 0, v :: vs, _ :: c => by simp [spl, spl_len 0 vs c]
  | 0, _ :: _, [] => rfl
  | n + 1, vs, x :: c => by simp [spl, spl_len n vs c]
  | _ + 1, _, [] => rfl
theorem spl_get {α : Type} : ∀ (o : Nat) (vs c : List α) (j : Nat), o + vs.length ≤ c.length → (spl o vs c)[j]? = if o ≤ j ∧ j < o + vs.length then vs[j - o]? else c[j]?
  | 0, [], c, j, _ => by simp [spl]
  | 0, v :: vs, x :: c, 0, _ => by simp [spl]
  | 0, v :: vs, x :: c, j + 1, h => by
    have := spl_get 0 vs c j (by simp at h ⊢; omega)
    simp only [spl, List.getElem?_cons_succ, this, List.length_cons]
    by_cases h1 : j < 0 + vs.length
    · rw [if_pos ⟨Nat.zero_le _, h1⟩, if_pos ⟨Nat.zero_le _, by omega⟩]; simp
    · rw [if_neg (fun h => h1 h.2), if_neg (fun h => h1 (by have := h.2; omega))]
  | 0, _ :: _, [], j, h => by simp at h
  | n + 1, vs, x :: c, 0, h => by simp [spl]
  | n + 1, vs, x :: c, j + 1, h => by
    have := spl_get n vs c j (by simp at h; omega)
    simp only [spl, List.getElem?_cons_succ, this]
    by_cases h1 : n ≤ j ∧ j < n + vs.length
    · rw [if_pos h1, if_pos ⟨by omega, by omega⟩]; congr 1; omega
    · rw [if_neg h1, if_neg (fun h => h1 ⟨by omega, by omega⟩)]
  | n + 1, vs, [], j, h => by simp at h
theorem spl_set {α : Type} (v : α) : ∀ (o : Nat) (vs c : List α), o < c.length → spl (o + 1) vs (c.set o v) = spl o (v :: vs) c
  | 0, vs, x :: c, _ => by simp [spl]
  | n + 1, vs, x :: c, h => by
    have := spl_set v n vs c (by simpa using h)
    simp only [List.set_cons_succ, spl, this]
  | _, _, [], h => by simp at h

theorem setCell_heap {g o : Nat} {cs : Array Value} {T : TypeId} {v : Value} (h : w.heap[g]? = some (.cells cs T (0, 0))) : (w.setCell ⟨g, o, none⟩ v).heap[g]? = some (.cells (cs.setIfInBounds o v) T (0, 0)) := by
  show (w.heap.modify g _)[g]? = _
  rw [Array.getElem?_modify]
  simp [h]
theorem setCells_heap {g : Nat} {T : TypeId} : ∀ (vs : List Value) (o : Nat) (w : World) (cs : Array Value), w.heap[g]? = some (.cells cs T (0, 0)) → o + vs.length ≤ cs.size → (w.setCells g o vs).heap[g]? = some (.cells (spl o vs cs.toList).toArray T (0, 0))
  | [], o, w, cs, h, _ => by
    have : spl o [] cs.toList = cs.toList := by
      apply List.ext_getElem?
      intro j
      by_cases hj : o ≤ cs.size
      · rw [spl_get o [] _ j (by simpa using hj), if_neg (by simp)]
      · rename_i h2; simp at h2; omega
    rw [this]; simpa [World.setCells] using h
  | v :: vs, o, w, cs, h, hl => by
    simp only [World.setCells]
    rw [setCells_heap vs (o + 1) _ _ (setCell_heap h) (by simp at hl ⊢; omega), Array.toList_setIfInBounds, spl_set v o vs cs.toList (by simp at hl ⊢; omega)]
theorem setCell_size {g o : Nat} {v : Value} : (w.setCell ⟨g, o, none⟩ v).heap.size = w.heap.size := by
  show (w.heap.modify g _).size = _
  simp
theorem setCells_frame {g : Nat} : ∀ (vs : List Value) (o : Nat) (w : World), (w.setCells g o vs).os = w.os ∧ (w.setCells g o vs).tape = w.tape ∧ (w.setCells g o vs).output = w.output ∧ (w.setCells g o vs).heap.size = w.heap.size ∧ ∀ k, k ≠ g → (w.setCells g o vs).heap[k]? = w.heap[k]?
  | [], o, w => ⟨rfl, rfl, rfl, rfl, fun _ _ => rfl⟩
  | v :: vs, o, w => by
    obtain ⟨h1, h2, h3, h4, h5⟩ := setCells_frame (g := g) vs (o + 1) (w.setCell ⟨g, o, none⟩ v)
    refine ⟨h1, h2, h3, h4.trans setCell_size, fun k hk => (h5 k hk).trans ?_⟩
    show (w.heap.modify g _)[k]? = _
    rw [Array.getElem?_modify, if_neg (fun e => hk e.symm)]
theorem But.setCells {g o : Nat} {cs : Array Value} {T : TypeId} {vs : List Value} (h : w.heap[g]? = some (.cells cs T (0, 0))) (hl : o + vs.length ≤ cs.size) : But g w (w.setCells g o vs) := by
  obtain ⟨h1, h2, h3, h4, h5⟩ := setCells_frame (g := g) vs o w
  refine ⟨h1, h2, h3, Nat.le_of_eq h4.symm, fun k _ hk => h5 k hk, ?_⟩
  rw [rowLen_of h, rowLen_of (setCells_heap vs o w cs h hl)]
  simp [spl_len]

theorem run_storeAt {T : TypeId} {v : Value} {g o : Nat} {cs : Array Value} {T' : TypeId} (h : w.heap[g]? = some (.cells cs T' (0, 0))) (hl : o + v.cells.toList.length ≤ cs.size) (hs : v.cells.size = szOf P T) (hi : ∃ i, P.info? T = some i)
    (h1 : ∀ u ∈ v.cells.toList, u.oneCell' = true) : (Instr.storeAt T (.pointer (some ⟨g, o, none⟩)) v).run P w = .ok () (w.setCells g o v.cells.toList) := by
  have hcell : ∀ j, j < v.cells.toList.length → (w.cell? ⟨g, o + 0 + j, none⟩).isSome = true := fun j hj => by
    have h2 : o + j < cs.size := by omega
    simp [World.cell?, h, Array.getElem?_eq_getElem h2]
  have hfr : ∀ j, j < v.cells.toList.length → w.frozen? ⟨g, o + 0 + j, none⟩ = false := fun j hj => by simp [World.frozen?, h]
  have := run_storeCells_cells (P := P) g o v.cells.toList 0 w hcell hfr h1
  simp only [Instr.storeAt, Instr.sureAddr, storeVar, Sem.run_bind, Sem.run_pure, Result.andThen_ok, run_sizeOf_cells hi, ne_eq, hs, not_true_eq_false, if_false]
  simpa using this

/-- What a value is when it is not written any more; the rows that it reaches are none that are written from then on. -/
def toP1 (K : PV → Sto → Prop) (σ : Sto) : AV → Prop
  | .p x => K x σ
  | .tl l => K (.lst l) σ
  | .row b sz o n => match at_ σ b with
    | .row T sz' l => bif Nat.beq sz sz' then ∃ q, (o + n ≤ l.length ∧ (l.drop o).take n = q) ∧ K (.lst q) (set_ σ b (.fz T sz l)) else False
    | .fz _ sz' l => bif Nat.beq sz sz' then ∃ q, (o + n ≤ l.length ∧ (l.drop o).take n = q) ∧ K (.lst q) σ else False
    | _ => False
  | _ => False
def toPs1 : List AV → (List PV → Sto → Prop) → Sto → Prop
  | [], K, σ => K [] σ
  | x :: l, K, σ => toP1 (fun y σ' => toPs1 l (fun ys => K (y :: ys)) σ') σ x
/-- A variable of the call's own, too: a pointer to what is not written any more. -/
def toPK (K : PV → Sto → Prop) (σ : Sto) : AV → Prop
  | .ptr b 0 => match at_ σ b with
    | .box T c => toPs1 c (fun ys σ' => K (.bx (some (.agg ys))) (set_ σ' b (.fb ys))) σ
    | .fb ys => K (.bx (some (.agg ys))) σ
    | _ => False
  | x => toP1 K σ x
/-- The same of many, from the left. -/
def toPsK : List AV → (List PV → Sto → Prop) → Sto → Prop
  | [], K, σ => K [] σ
  | x :: l, K, σ => toPK (fun y σ' => toPsK l (fun ys => K (y :: ys)) σ') σ x
/-- An aggregate, too. -/
def toPA (K : PV → Sto → Prop) (σ : Sto) : AV → Prop
  | .agg l => toPsK l (fun ys => K (.agg ys)) σ
  | x => toPK K σ x
def toPAs : List AV → (List PV → Sto → Prop) → Sto → Prop
  | [], K, σ => K [] σ
  | x :: l, K, σ => toPA (fun y σ' => toPAs l (fun ys => K (y :: ys)) σ') σ x

theorem rowAt_PR {T : TypeId} {sz o n b : Nat} {l : List PV} {u : Value} (hx : VR F ι w (.row b sz o n) u) (hr : RowAt F w T sz l (ι b)) (hF : ∀ r β, ι b = some (r, β) → F r) (hl : o + n ≤ l.length) : PR F w (.lst ((l.drop o).take n)) u := by
  cases hx with
  | row0 b sz o A => simpa using PR.nil A 0
  | row b sz o n r β c N hι hN hn hc =>
    rw [hι] at hr
    obtain ⟨cs, hh, hlen, hfit, hp⟩ := hr
    have hget : ∀ (i : Nat) (x : PV), ((l.drop o).take n)[i]? = some x → l[o + i]? = some x := fun i x hx => by
      rw [List.getElem?_take] at hx
      split at hx
      · rwa [List.getElem?_drop] at hx
      · cases hx
    have hcell : ∀ (i : Nat) (x : PV) (j : Nat) (y : PV), ((l.drop o).take n)[i]? = some x → x.cs[j]? = some y → ∃ v, cs[β + o * sz + (i * sz + j)]? = some v ∧ PR F w y v := fun i x j y hx hy => by
      have hx2 := hget i x hx
      have hlt := (List.getElem?_eq_some_iff.mp hx2).1
      have hf := hfit _ x hx2
      have hj2 := (List.getElem?_eq_some_iff.mp hy).1
      have hle : (o + i + 1) * sz ≤ l.length * sz := Nat.mul_le_mul_right _ hlt
      rw [Nat.add_mul, Nat.one_mul] at hle
      obtain ⟨v, hv⟩ : ∃ v, cs[β + ((o + i) * sz + j)]? = some v := ⟨_, Array.getElem?_eq_getElem (by have := hf.1; omega)⟩
      have e3 : β + o * sz + (i * sz + j) = β + ((o + i) * sz + j) := by rw [Nat.add_mul]; omega
      exact ⟨v, by rw [e3]; exact hv, hp _ x j y v hx2 hy hv⟩
    refine .lst _ r (β + o * sz) c sz n (fun k => cs.getD (β + o * sz + k) undef) (hF r β hι) (by simp [List.length_take, List.length_drop]; omega) hn (fun i x hx => hfit _ x (hget i x hx)) (fun i x j y hx hy => ?_) (fun i x j y hx hy => ?_)
    · obtain ⟨v, hv, _⟩ := hcell i x j y hx hy
      simp [World.cell?, hh, hv]
    · obtain ⟨v, hv, hp⟩ := hcell i x j y hx hy
      simpa [hv] using hp

theorem toP1_ok {x : AV} {u : Value} {K : PV → Sto → Prop} (h : St cx F ι fr σ a w) (hx : VR F ι w x u) (hk : toP1 K σ x) :
    ∃ F' σ' y, K y σ' ∧ (∀ r, F r → F' r) ∧ St cx F' ι fr σ' a w ∧ PR F' w y u ∧ σ'.length = σ.length ∧ (∀ c, (at_ σ c).isBox = true → at_ σ' c = at_ σ c) ∧ ∀ wr, Step wr F ι σ w F' ι σ' w := by
  unfold toP1 at hk
  split at hk
  · cases hx with
    | p _ _ hv => exact ⟨F, σ, _, hk, fun _ h => h, h, hv, rfl, fun _ _ => rfl, fun _ => Step.refl⟩
  · cases hx with
    | tl _ A n hn hv => exact ⟨F, σ, _, hk, fun _ h => h, h, hv, rfl, fun _ _ => rfl, fun _ => Step.refl⟩
  · rename_i b sz o n
    split at hk
    · rename_i T0 sz' l hq
      cases hz : Nat.beq sz sz' with
      | false => rw [hz] at hk; exact hk.elim
      | true =>
        rw [hz] at hk
        have := Nat.eq_of_beq_eq_true hz
        subst this
        obtain ⟨_, ⟨hl, rfl⟩, hk⟩ := hk
        obtain ⟨F', hF, h', hst⟩ := h.freeze hq
        have hd : at_ σ b ≠ .dead := fun e => by rw [e] at hq; cases hq
        have hb := h'.sr.bk b
        rw [at_set_self σ b _ hd] at hb
        exact ⟨F', _, _, hk, hF, h', rowAt_PR (hx.mono hF (fun _ _ => rfl) (fun _ _ h => h) (fun _ _ _ _ _ h => h)) hb.1 hb.2 hl, set_length _ _ _, fun c hc => at_set_ne _ _ _ _ (fun e => by subst e; rw [hq] at hc; cases hc), hst⟩
    · rename_i T0 sz' l hq
      cases hz : Nat.beq sz sz' with
      | false => rw [hz] at hk; exact hk.elim
      | true =>
        rw [hz] at hk
        have := Nat.eq_of_beq_eq_true hz
        subst this
        obtain ⟨_, ⟨hl, rfl⟩, hk⟩ := hk
        have hb := h.sr.bk b
        rw [hq] at hb
        exact ⟨F, σ, _, hk, fun _ h => h, h, rowAt_PR hx hb.1 hb.2 hl, rfl, fun _ _ => rfl, fun _ => Step.refl⟩
    · exact hk.elim
  · exact hk.elim

theorem toPs1_ok : ∀ {l : List AV} {vs : List Value} {K : List PV → Sto → Prop} {F : Nat → Prop} {σ : Sto}, St cx F ι fr σ a w → vs.length = l.length → (∀ (j : Nat) x v, l[j]? = some x → vs[j]? = some v → VR F ι w x v) → toPs1 l K σ →
    ∃ F' σ' ys, K ys σ' ∧ (∀ r, F r → F' r) ∧ St cx F' ι fr σ' a w ∧ ys.length = vs.length ∧ (∀ (j : Nat) y v, ys[j]? = some y → vs[j]? = some v → PR F' w y v) ∧ σ'.length = σ.length ∧ (∀ c, (at_ σ c).isBox = true → at_ σ' c = at_ σ c) ∧ ∀ wr, Step wr F ι σ w F' ι σ' w
  | [], vs, K, F, σ, h, hl, hx, hk => ⟨F, σ, [], hk, fun _ h => h, h, hl.symm, fun j y v hy => (by simp at hy), rfl, fun _ _ => rfl, fun _ => Step.refl⟩
  | x :: l, [], K, F, σ, h, hl, hx, hk => by simp at hl
  | x :: l, v :: vs, K, F, σ, h, hl, hx, hk => by
    obtain ⟨F1, σ1, y, hk1, hF1, h1, hy, e1, k1, t1⟩ := toP1_ok h (hx 0 x v rfl rfl) hk
    obtain ⟨F2, σ2, ys, hk2, hF2, h2, hyl, hys, e2, k2, t2⟩ := toPs1_ok (vs := vs) h1 (by simpa using hl) (fun j x v hj hv => (hx (j + 1) x v (by simpa using hj) (by simpa using hv)).mono hF1 (fun _ _ => rfl) (fun _ _ h => h) (fun _ _ _ _ _ h => h)) hk1
    refine ⟨F2, σ2, y :: ys, hk2, fun r hr => hF2 r (hF1 r hr), h2, by simp [hyl], fun j z u hz hu => ?_, e2.trans e1, fun c hc => (k2 c (by rw [k1 c hc]; exact hc)).trans (k1 c hc), fun wr => (t1 wr).trans (t2 wr)⟩
    cases j with
    | zero => simp at hz hu; subst hz; subst hu; exact hy.mono hF2 (fun _ _ => rfl)
    | succ j => exact hys j z u (by simpa using hz) (by simpa using hu)

theorem toPK_ok {x : AV} {u : Value} {K : PV → Sto → Prop} (h : St cx F ι fr σ a w) (hx : VR F ι w x u) (hk : toPK K σ x) :
    ∃ F' σ' y, K y σ' ∧ (∀ r, F r → F' r) ∧ St cx F' ι fr σ' a w ∧ PR F' w y u ∧ σ'.length = σ.length ∧ ∀ wr, Step wr F ι σ w F' ι σ' w := by
  unfold toPK at hk
  split at hk
  · rename_i b
    split at hk
    · rename_i T c hc
      have hb := h.sr.bk b
      rw [hc] at hb
      obtain ⟨r, cs, e, hh, hs, h1, hv⟩ := hb
      obtain ⟨F1, σ1, ys, hk1, hF1, h1', hyl, hys, e1, k1, t1⟩ := toPs1_ok (vs := cs.toList) h (by simpa using hs) (fun j x v hj hvj => hv j x v hj (by simpa using hvj)) hk
      have hone : allOne ys = true := PR.allOne_of hyl.symm (fun v hvm => h1 v (by simpa using hvm)) hys
      have hc1 : at_ σ1 b = .box T c := (k1 b (by rw [hc]; rfl)).trans hc
      obtain ⟨F2, r2, e2, hF2, hFF, h2, t2⟩ := h1'.freezeBox (l := ys) hc1 (by rw [hyl]; simpa using hs) hone (fun r' cs' e' hh' j x v hx' hv' => by
        rw [e] at e'; cases e'; rw [hh] at hh'; cases hh'
        exact hys j x v hx' (by simpa using hv'))
      rw [e] at e2; cases e2
      cases hx with
      | ptr _ _ r' hι =>
        rw [e] at hι; cases hι
        refine ⟨F2, _, _, hk1, fun r hr => hFF r (hF1 r hr), h2, ?_, by rw [set_length]; exact e1, fun wr => (t1 wr).trans (t2 wr)⟩
        refine .bx (.agg ys) r 0 (fun j => cs.getD j undef) hF2 hone (fun j y hy => ?_) (fun j y hy => ?_)
        · have hy' : ys[j]? = some y := hy
          have : j < cs.size := by have := (List.getElem?_eq_some_iff.mp hy').1; rw [hyl] at this; simpa using this
          simp [World.cell?, hh, this]
        · have hy' : ys[j]? = some y := hy
          have hj : j < cs.size := by have := (List.getElem?_eq_some_iff.mp hy').1; rw [hyl] at this; simpa using this
          have := hys j y (cs.getD j undef) hy' (by simp [hj])
          exact this.mono hFF (fun _ _ => rfl)
    · rename_i ys hc
      have hb := h.sr.bk b
      rw [hc] at hb
      obtain ⟨r, cs, T, e, hF, hh, hs, h1, hv⟩ := hb
      cases hx with
      | ptr _ _ r' hι =>
        rw [e] at hι; cases hι
        refine ⟨F, σ, _, hk, fun _ h => h, h, ?_, rfl, fun _ => Step.refl⟩
        refine .bx (.agg ys) r 0 (fun j => cs.getD j undef) hF h1 (fun j y hy => ?_) (fun j y hy => ?_)
        · have hy' : ys[j]? = some y := hy
          have : j < cs.size := by have := (List.getElem?_eq_some_iff.mp hy').1; omega
          simp [World.cell?, hh, this]
        · have hy' : ys[j]? = some y := hy
          have hj : j < cs.size := by have := (List.getElem?_eq_some_iff.mp hy').1; omega
          exact hv j y (cs.getD j undef) hy' (by simp [hj])
    · exact hk.elim
  · obtain ⟨F', σ', y, a1, a2, a3, a4, a5, _, a6⟩ := toP1_ok h hx hk
    exact ⟨F', σ', y, a1, a2, a3, a4, a5, a6⟩

theorem toPsK_ok : ∀ {l : List AV} {vs : List Value} {K : List PV → Sto → Prop} {F : Nat → Prop} {σ : Sto}, St cx F ι fr σ a w → vs.length = l.length → (∀ (j : Nat) x v, l[j]? = some x → vs[j]? = some v → VR F ι w x v) → toPsK l K σ →
    ∃ F' σ' ys, K ys σ' ∧ (∀ r, F r → F' r) ∧ St cx F' ι fr σ' a w ∧ ys.length = vs.length ∧ (∀ (j : Nat) y v, ys[j]? = some y → vs[j]? = some v → PR F' w y v) ∧ σ'.length = σ.length ∧ ∀ wr, Step wr F ι σ w F' ι σ' w
  | [], vs, K, F, σ, h, hl, hx, hk => ⟨F, σ, [], hk, fun _ h => h, h, hl.symm, fun j y v hy => (by simp at hy), rfl, fun _ => Step.refl⟩
  | x :: l, [], K, F, σ, h, hl, hx, hk => by simp at hl
  | x :: l, v :: vs, K, F, σ, h, hl, hx, hk => by
    obtain ⟨F1, σ1, y, hk1, hF1, h1, hy, e1, t1⟩ := toPK_ok h (hx 0 x v rfl rfl) hk
    obtain ⟨F2, σ2, ys, hk2, hF2, h2, hyl, hys, e2, t2⟩ := toPsK_ok (vs := vs) h1 (by simpa using hl) (fun j x v hj hv => (hx (j + 1) x v (by simpa using hj) (by simpa using hv)).mono hF1 (fun _ _ => rfl) (fun _ _ h => h) (fun _ _ _ _ _ h => h)) hk1
    refine ⟨F2, σ2, y :: ys, hk2, fun r hr => hF2 r (hF1 r hr), h2, by simp [hyl], fun j z u hz hu => ?_, e2.trans e1, fun wr => (t1 wr).trans (t2 wr)⟩
    cases j with
    | zero => simp at hz hu; subst hz; subst hu; exact hy.mono hF2 (fun _ _ => rfl)
    | succ j => exact hys j z u (by simpa using hz) (by simpa using hu)

theorem toPA_ok {x : AV} {u : Value} {K : PV → Sto → Prop} (h : St cx F ι fr σ a w) (hx : VR F ι w x u) (hk : toPA K σ x) :
    ∃ F' σ' y, K y σ' ∧ (∀ r, F r → F' r) ∧ St cx F' ι fr σ' a w ∧ PR F' w y u ∧ σ'.length = σ.length ∧ ∀ wr, Step wr F ι σ w F' ι σ' w := by
  unfold toPA at hk
  split at hk
  · rename_i l
    cases hx with
    | agg _ vs hl h1 hp =>
      obtain ⟨F2, σ2, ys, hk2, hF2, h2, hyl, hys, e2, t2⟩ := toPsK_ok h hl hp hk
      exact ⟨F2, σ2, _, hk2, hF2, h2, .agg ys vs hyl.symm (PR.allOne_of hyl.symm h1 hys) hys, e2, t2⟩
  · exact toPK_ok h hx hk
theorem toPAs_ok : ∀ {l : List AV} {vs : List Value} {K : List PV → Sto → Prop} {F : Nat → Prop} {σ : Sto}, St cx F ι fr σ a w → vs.length = l.length → (∀ (j : Nat) x v, l[j]? = some x → vs[j]? = some v → VR F ι w x v) → toPAs l K σ →
    ∃ F' σ' ys, K ys σ' ∧ (∀ r, F r → F' r) ∧ St cx F' ι fr σ' a w ∧ ys.length = vs.length ∧ (∀ (j : Nat) y v, ys[j]? = some y → vs[j]? = some v → PR F' w y v) ∧ σ'.length = σ.length ∧ ∀ wr, Step wr F ι σ w F' ι σ' w
  | [], vs, K, F, σ, h, hl, hx, hk => ⟨F, σ, [], hk, fun _ h => h, h, hl.symm, fun j y v hy => (by simp at hy), rfl, fun _ => Step.refl⟩
  | x :: l, [], K, F, σ, h, hl, hx, hk => by simp at hl
  | x :: l, v :: vs, K, F, σ, h, hl, hx, hk => by
    obtain ⟨F1, σ1, y, hk1, hF1, h1, hy, e1, t1⟩ := toPA_ok h (hx 0 x v rfl rfl) hk
    obtain ⟨F2, σ2, ys, hk2, hF2, h2, hyl, hys, e2, t2⟩ := toPAs_ok (vs := vs) h1 (by simpa using hl) (fun j x v hj hv => (hx (j + 1) x v (by simpa using hj) (by simpa using hv)).mono hF1 (fun _ _ => rfl) (fun _ _ h => h) (fun _ _ _ _ _ h => h)) hk1
    refine ⟨F2, σ2, y :: ys, hk2, fun r hr => hF2 r (hF1 r hr), h2, by simp [hyl], fun j z u hz hu => ?_, e2.trans e1, fun wr => (t1 wr).trans (t2 wr)⟩
    cases j with
    | zero => simp at hz hu; subst hz; subst hu; exact hy.mono hF2 (fun _ _ => rfl)
    | succ j => exact hys j z u (by simpa using hz) (by simpa using hu)
end
end Go.Proofs.Sy
