/- Contracts of functions over the symbolic heap, and calls. -/
import Derived.Test.YtnnalcglfgapbaaDoorSyM
set_option linter.unusedVariables false
set_option linter.unusedSimpArgs false
namespace Go.Proofs.Sy
open Go Go.RowKit

def idxN (b : Nat) : List Nat → Option Nat
  | [] => none
  | c :: l => match Nat.beq c b with
    | true => some 0
    | false => match idxN b l with
      | some k => some (k + 1)
      | none => none
theorem idxN_some {b : Nat} : ∀ {l : List Nat} {k : Nat}, idxN b l = some k → nth l k = some b
  | [], k, h => by simp [idxN] at h
  | c :: l, k, h => by
    simp only [idxN] at h
    cases hb : Nat.beq c b with
    | true => rw [hb] at h; cases h; rw [Nat.eq_of_beq_eq_true hb]; rfl
    | false =>
      rw [hb] at h
      cases hq : idxN b l with
      | none => simp [hq] at h
      | some q => simp [hq] at h; subst h; show nth l q = some b; exact idxN_some hq
theorem idxN_none {b : Nat} : ∀ {l : List Nat}, idxN b l = none → ∀ k, nth l k ≠ some b
  | [], h, k => by simp [nth]
  | c :: l, h, k => by
    simp only [idxN] at h
    cases hb : Nat.beq c b with
    | true => rw [hb] at h; cases h
    | false =>
      rw [hb] at h
      have hne : c ≠ b := fun e => by subst e; rw [beq_tt] at hb; cases hb
      cases hq : idxN b l with
      | some q => simp [hq] at h
      | none =>
        cases k with
        | zero => simpa [nth] using hne
        | succ k => exact idxN_none hq k
def nodupN : List Nat → Bool
  | [] => true
  | b :: l => (match idxN b l with | none => true | some _ => false) && nodupN l
theorem idxN_of : ∀ {l : List Nat} {k b : Nat}, nodupN l = true → nth l k = some b → idxN b l = some k
  | [], k, b, _, h => by simp [nth] at h
  | c :: l, 0, b, hn, h => by simp [nth] at h; subst h; simp [idxN]
  | c :: l, k + 1, b, hn, h => by
    simp only [nodupN, Bool.and_eq_true] at hn
    simp only [nth] at h
    have hne : c ≠ b := fun e => by
      subst e
      cases hq : idxN c l with
      | none => exact idxN_none hq k h
      | some q => rw [hq] at hn; exact absurd hn.1 (by simp)
    simp only [idxN, beq_ff hne, idxN_of hn.2 h]

/-- The blocks get other numbers; what has none is forgotten. -/
def AV.ren (g : Nat → Option Nat) : AV → AV
  | .ptr b off => match g b with
    | some k => .ptr k off
    | none => .dead
  | .el b sz i off => match g b with
    | some k => .el k sz i off
    | none => .dead
  | .row b sz o n => match g b with
    | some k => .row k sz o n
    | none => .dead
  | .agg l => .agg (renL g l)
  | .tup l => .tup (renL g l)
  | .mp b => match g b with
    | some k => .mp k
    | none => .dead
  | .fn f l => .fn f (renL g l)
  | x => x
where renL (g : Nat → Option Nat) : List AV → List AV
  | [] => []
  | x :: l => x.ren g :: renL g l
theorem renL_get (g : Nat → Option Nat) : ∀ (l : List AV) (j : Nat), (AV.ren.renL g l)[j]? = (l[j]?).map (AV.ren g)
  | [], j => by simp [AV.ren.renL]
  | x :: l, 0 => by simp [AV.ren.renL]
  | x :: l, j + 1 => by simp [AV.ren.renL, renL_get g l j]
theorem renL_len (g : Nat → Option Nat) : ∀ (l : List AV), (AV.ren.renL g l).length = l.length
  | [] => rfl
  | x :: l => by simp [AV.ren.renL, renL_len g l]
def renB (g : Nat → Option Nat) : Bk → Bk
  | .box T c => .box T (AV.ren.renL g c)
  | k => k
def renF (g : Nat → Option Nat) : Fr → Fr
  | [] => []
  | (t, x) :: r => (t, x.ren g) :: renF g r
theorem look_ren (g : Nat → Option Nat) (t : Nat) : ∀ fr : Fr, look t (renF g fr) = (look t fr).ren g
  | [] => rfl
  | (k, x) :: r => by
    simp only [renF, look]
    cases Nat.beq k t with
    | true => rfl
    | false => exact look_ren g t r
theorem renB_w (g : Nat → Option Nat) (k : Bk) : (renB g k).w = k.w := by cases k <;> rfl
theorem renB_box (g : Nat → Option Nat) (k : Bk) : (renB g k).isBox = k.isBox := by cases k <;> rfl
theorem renB_dead (g : Nat → Option Nat) {k : Bk} (h : k ≠ .dead) : renB g k ≠ .dead := by cases k <;> simp_all [renB]

theorem VR.ren {F F' : Nat → Prop} {ι ι' : Loc} {w w' : World} {x : AV} {v : Value} {g : Nat → Option Nat} (h : VR F ι w x v) (hF : ∀ r, F r → F' r) (hw : ∀ r, F r → w'.heap[r]? = w.heap[r]?)
    (hι : ∀ b k q, g b = some k → ι b = some q → ι' k = some q) (hl : ∀ r N, rowLen w r = some N → rowLen w' r = some N) : VR F' ι' w' (x.ren g) v := by
  induction h with
  | dead v => exact .dead v
  | p x v h => exact .p x v (h.mono hF hw)
  | tl l A n hn h => exact .tl l A n hn (h.mono hF hw)
  | ptr c off r h =>
    simp only [AV.ren]
    cases hg : g c with
    | none => exact .dead _
    | some k => exact .ptr k off r (hι c k _ hg h)
  | el c sz i off r β h =>
    simp only [AV.ren]
    cases hg : g c with
    | none => exact .dead _
    | some k => exact .el k sz i off r β (hι c k _ hg h)
  | fp x off r o vals hr hv hp h1 => exact .fp x off r o vals (hF r hr) (fun j y hj => (cell_block (hw r hr)).trans (hv j y hj)) (fun j y hj => (hp j y hj).mono hF hw) h1
  | row c sz o n r β cc N h hN hn hc =>
    simp only [AV.ren]
    cases hg : g c with
    | none => exact .dead _
    | some k => exact .row k sz o n r β cc N (hι c k _ hg h) (hl r N hN) hn hc
  | row0 c sz o A =>
    simp only [AV.ren]
    cases hg : g c with
    | none => exact .dead _
    | some k => exact .row0 k sz o A
  | agg l vs hl' h1 hp ih =>
    refine .agg _ vs (by rw [renL_len]; exact hl') h1 fun j y v hy hv => ?_
    rw [renL_get] at hy
    obtain ⟨y0, hy0, rfl⟩ := Option.map_eq_some_iff.mp hy
    exact ih j y0 v hy0 hv
  | tup l vs hl' hp ih =>
    refine .tup _ vs (by rw [renL_len]; exact hl') fun j y v hy hv => ?_
    rw [renL_get] at hy
    obtain ⟨y0, hy0, rfl⟩ := Option.map_eq_some_iff.mp hy
    exact ih j y0 v hy0 hv
  | mp c r h =>
    simp only [AV.ren]
    cases hg : g c with
    | none => exact .dead _
    | some k => exact .mp k r (hι c k _ hg h)
  | fn f l vs hl' hp ih =>
    refine .fn f _ vs (by rw [renL_len]; exact hl') fun j y v hy hv => ?_
    rw [renL_get] at hy
    obtain ⟨y0, hy0, rfl⟩ := Option.map_eq_some_iff.mp hy
    exact ih j y0 v hy0 hv

theorem BR.ren {F F' : Nat → Prop} {ι ι' : Loc} {w w' : World} {k : Bk} {p : Option (Nat × Nat)} {g : Nat → Option Nat} (h : BR F ι w k p) (hF : ∀ r, F r → F' r) (hw : ∀ r, F r → w'.heap[r]? = w.heap[r]?)
    (hι : ∀ b k q, g b = some k → ι b = some q → ι' k = some q) (hl : ∀ r N, rowLen w r = some N → rowLen w' r = some N) (hp : k ≠ .dead → ∀ r β, p = some (r, β) → w'.heap[r]? = w.heap[r]?) : BR F' ι' w' (renB g k) p := by
  cases k with
  | dead => trivial
  | box T c =>
    obtain ⟨r, cs, e, h1, h2, h3, h4⟩ := h
    refine ⟨r, cs, e, (hp (by simp) r 0 e).trans h1, by rw [h2, renL_len], h3, fun j x v hx hv => ?_⟩
    rw [renL_get] at hx
    obtain ⟨y, hy, rfl⟩ := Option.map_eq_some_iff.mp hx
    exact (h4 j y v hy hv).ren hF hw hι hl
  | row T sz l => exact RowAt.mono h hF hw (hp (by simp))
  | lend T sz l => exact RowAt.mono h hF hw (hp (by simp))
  | fz T sz l => exact ⟨RowAt.mono h.1 hF hw (hp (by simp)), fun r β e => hF r (h.2 r β e)⟩
  | map T l => exact MapAt.mono h hF hw (hp (by simp))
  | fb l => exact FbAt.mono h hF hw

/-! ### Contracts -/
def VRs (F : Nat → Prop) (ι : Loc) (w : World) (l : List AV) (vs : List Value) : Prop := vs.length = l.length ∧ ∀ (j : Nat) x v, l[j]? = some x → vs[j]? = some v → VR F ι w x v
def resV : List Value → Value
  | [v] => v
  | vs => .tuple vs.toArray
def resAV : List AV → AV
  | [x] => x
  | l => .tup l
theorem VRs.res {F : Nat → Prop} {ι : Loc} {w : World} {l : List AV} {vs : List Value} (h : VRs F ι w l vs) : VR F ι w (resAV l) (resV vs) := by
  match l, vs, h with
  | [x], [v], h => exact h.2 0 x v rfl rfl
  | [], [], h => exact .tup [] [] rfl h.2
  | x :: y :: l, u :: v :: vs, h => exact .tup _ _ h.1 h.2
  | [], _ :: _, h => exact absurd h.1 (by simp)
  | [x], [], h => exact absurd h.1 (by simp)
  | [x], _ :: _ :: _, h => exact absurd h.1 (by simp)
  | _ :: _ :: _, [], h => exact absurd h.1 (by simp)
  | _ :: _ :: _, [_], h => exact absurd h.1 (by simp)

def ownOf (ι : Loc) (τ : Sto) : Nat → Prop := fun r => ∃ b β, (at_ τ b).w = true ∧ ι b = some (r, β)
def cxOf (F : Nat → Prop) (ι : Loc) (τ : Sto) (w : World) (nt : Nat) : Cx := ⟨ownOf ι τ, F, w, ι, fun b => (at_ τ b).isBox = true, nt, []⟩
def callable (P : Program) (f : Nat) : Bool := match P.funcs[f]? with
  | some fn => fn.body.isSome && !(fn.name == "runtime.NumGoroutine")
  | none => false

/-- With these arguments, and these blocks, the function returns what Post says, and leaves the blocks that Post says. -/
def Fn (P : Program) (f : Nat) (args : List AV) (τ : Sto) (Post : List AV → Sto → Prop) : Prop :=
  callable P f = true ∧ ∀ F ι w vs, VRs F ι w args vs → SR F ι w τ → (∀ r, F r → r < w.heap.size) →
    Calls P f vs.toArray w fun e w' => ∃ F' ι' rs τ' us, e = .returned (resV us) ∧ Post rs τ' ∧ VRs F' ι' w' rs us ∧ SR F' ι' w' τ' ∧ Inv (cxOf F ι τ w 0) F' ι' τ' w' ∧ τ.length ≤ τ'.length

/-- A function of pure values. -/
def FnP (P : Program) (f : Nat) (xs ys : List PV) : Prop := Fn P f (toAVs xs) [] fun rs τ' => rs = toAVs ys ∧ τ' = []

def rawL : List PV → Bool
  | [] => true
  | .raw _ :: l => rawL l
  | _ => false
/-- The rows are looked at, and stay the call's own. -/
def viewPK (K : PV → Prop) (σ : Sto) : AV → Prop
  | .p x => K x
  | .tl l => K (.lst l)
  | .row b sz o n => asLK σ [] (fun q => K (.lst q)) (.row b sz o n)
  | _ => False
def viewsK : List AV → (List PV → Prop) → Sto → Prop
  | [], K, σ => K []
  | x :: l, K, σ => viewPK (fun y => viewsK l (fun ys => K (y :: ys)) σ) σ x
/-- Pointers stay, all else gets pure, or stays. -/
def ptrsK : List AV → (List AV → Sto → Prop) → Sto → Prop
  | [], K, σ => K [] σ
  | .ptr b o :: l, K, σ => ptrsK l (fun ys => K (.ptr b o :: ys)) σ
  | .p x :: l, K, σ => ptrsK l (fun ys => K (.p x :: ys)) σ
  | x :: l, K, σ => toPA (fun y σ' => ptrsK l (fun ys => K (.p y :: ys)) σ') σ x ∨ ptrsK l (fun ys => K (x :: ys)) σ

def gIn (m : List Nat) (b : Nat) : Option Nat := idxN b m
def gOut (m : List Nat) (k : Nat) : Option Nat := nth m k
def gKill (m : List Nat) (σ : Sto) (b : Nat) : Option Nat := match idxN b m with
  | none => some b
  | some _ => match (at_ σ b).isBox with
    | true => some b
    | false => none
def selS (m : List Nat) (σ : Sto) : List Nat → Sto
  | [] => []
  | b :: l => renB (gIn m) (at_ σ b) :: selS m σ l
def more : Nat → Nat → List Nat
  | _, 0 => []
  | s, n + 1 => s :: more (s + 1) n
/-- The caller's numbers of the callee's blocks, behind the call. -/
def mOut (m : List Nat) (σ τ' : Sto) : List Nat := m ++ more σ.length (τ'.length - m.length)
def tab (f : Nat → Bk) : Nat → Nat → Sto
  | _, 0 => []
  | s, n + 1 => f s :: tab f (s + 1) n
def merge (m : List Nat) (σ τ' : Sto) : Sto := tab (fun b => match idxN b (mOut m σ τ') with
  | some k => renB (gOut (mOut m σ τ')) (at_ τ' k)
  | none => renB (gKill m σ) (at_ σ b)) 0 (σ.length + (τ'.length - m.length))
def liveM (σ : Sto) : List Nat → Bool
  | [] => true
  | b :: l => (match at_ σ b with | .dead => false | _ => true) && liveM σ l

/-- The blocks of m that may be written are among these. -/
def subM (σ : Sto) (wr : Option (List Nat)) : List Nat → Bool
  | [] => true
  | b :: l => (match wr with
    | none => true
    | some w => !(at_ σ b).w || memN b w) && subM σ wr l

/-- Rows that are lent: they are read, and stay where they are. -/
def lend1 (b : Nat) (σ : Sto) : Sto := match at_ σ b with
  | .row T sz l => set_ σ b (.lend T sz l)
  | _ => σ
def unl1 (b : Nat) (σ : Sto) : Sto := match at_ σ b with
  | .lend T sz l => set_ σ b (.row T sz l)
  | _ => σ
def lendS : List Nat → Sto → Sto
  | [], σ => σ
  | b :: l, σ => lendS l (lend1 b σ)
def unlS : List Nat → Sto → Sto
  | [], σ => σ
  | b :: l, σ => unlS l (unl1 b σ)
def lendOK : List Nat → Sto → Bool
  | [], _ => true
  | b :: l, σ => (match at_ σ b with | .row _ _ _ => true | _ => false) && lendOK l (lend1 b σ)
def callK (P : Program) (wr : Option (List Nat)) (fr : Fr) (σ : Sto) (K : AV → Fr → Sto → Prop) (f : Nat) (args : List AV) : Prop :=
  (toPAs args (fun xs σ' => ∃ ys, FnP P f xs ys ∧ K (resAV (toAVs ys)) fr σ') σ) ∨
  (viewsK args (fun xs => ∃ ys, (FnP P f xs ys ∧ rawL ys = true) ∧ K (resAV (toAVs ys)) fr σ) σ) ∨
  (ptrsK args (fun xs σ' => ∃ m, (nodupN m && liveM σ' m && subM σ' wr m) = true ∧ ∃ Post : List AV → Sto → Prop, Fn P f (AV.ren.renL (gIn m) xs) (selS m σ' m) Post ∧
    ∀ rs τ', m.length ≤ τ'.length → Post rs τ' → K (resAV (AV.ren.renL (gOut (mOut m σ' τ')) rs)) (renF (gKill m σ') fr) (merge m σ' τ')) σ) ∨
  (∃ ls, lendOK ls σ = true ∧ ptrsK args (fun xs σ' => ∃ m, (nodupN m && liveM σ' m && subM σ' wr m) = true ∧ ∃ Post : List AV → Sto → Prop, Fn P f (AV.ren.renL (gIn m) xs) (selS m σ' m) Post ∧
    ∀ rs τ', m.length ≤ τ'.length → Post rs τ' → K (resAV (AV.ren.renL (gOut (mOut m σ' τ')) rs)) (renF (gKill m σ') fr) (unlS ls (merge m σ' τ'))) (lendS ls σ))

section
variable {P : Program} {cx : Cx} {F : Nat → Prop} {ι : Loc} {fr : Fr} {σ : Sto} {a : Act} {w w' : World}

theorem VRs.toAVs {F : Nat → Prop} {ι ι' : Loc} {w : World} {ys : List PV} {vs : List Value} (hl : ys.length = vs.length) (hp : ∀ (j : Nat) y v, ys[j]? = some y → vs[j]? = some v → PR F w y v) : VRs F ι w (Sy.toAVs ys) vs := by
  refine ⟨by rw [toAVs_len, hl], fun j x v hx hv => ?_⟩
  rw [toAVs_get] at hx
  obtain ⟨y, hy, rfl⟩ := Option.map_eq_some_iff.mp hx
  exact .p _ _ (hp j y v hy hv)
theorem SR.empty (ht : TabOK F w) : SR F (fun _ => none) w [] := by
  refine ⟨fun b => ?_, fun b b' r r' β β' h1 => ?_, fun b r β h1 => ?_, fun _ _ => rfl, ht⟩
  · cases b <;> trivial
  · cases b <;> cases h1
  · cases b <;> cases h1
theorem at_nil (b : Nat) : at_ [] b = .dead := by cases b <;> rfl

/-- A call of a function of pure values: nothing old changes. -/
theorem FnP.calls {f : Nat} {xs ys : List PV} {vs : List Value} (h : FnP P f xs ys) (hl : xs.length = vs.length) (hp : ∀ (j : Nat) y v, xs[j]? = some y → vs[j]? = some v → PR F w y v) (hlt : ∀ r, F r → r < w.heap.size) (ht : TabOK F w) :
    Calls P f vs.toArray w fun e w' => ∃ F' us, e = .returned (resV us) ∧ Below w.heap.size w w' ∧ (∀ r, F r → F' r) ∧ (∀ r, F' r → r < w.heap.size → F r) ∧ (∀ r, F' r → r < w'.heap.size) ∧ VRs F' (fun _ => none) w' (Sy.toAVs ys) us := by
  refine Calls.mono (h.2 F (fun _ => none) w vs (VRs.toAVs (ι' := fun _ => none) hl hp) (SR.empty ht) hlt) ?_
  rintro e w' ⟨F', ι', rs, τ', us, he, ⟨rfl, rfl⟩, hr, hs, hi, _⟩
  have hO : ∀ r, ¬ (cxOf F (fun _ => none) [] w 0).O r := fun r ⟨b, β, h1, _⟩ => by rw [at_nil] at h1; cases h1
  refine ⟨F', us, he, ⟨hi.os, hi.tape, hi.output, hi.size, fun k hk => hi.keep k hk (hO k)⟩, hi.f0, fun r hr hlt => (hi.newF r hr hlt).resolve_right (hO r), hi.lt, hr.1, fun j x v hx hv => ?_⟩
  have := hr.2 j x v hx hv
  rw [toAVs_get] at hx
  obtain ⟨y, hy, rfl⟩ := Option.map_eq_some_iff.mp hx
  cases this with
  | p _ _ h => exact .p _ _ h

/-- More blocks are never written. -/
theorem St.ext {F' : Nat → Prop} (h : St cx F ι fr σ a w) (hb : Below w.heap.size w w') (hF : ∀ r, F r → F' r) (hold : ∀ r, F' r → r < w.heap.size → F r) (hlt : ∀ r, F' r → r < w'.heap.size) : St cx F' ι fr σ a w' := by
  have h' := h.up hb
  have hmono : ∀ {x v}, VR F ι w' x v → VR F' ι w' x v := fun h => h.mono hF (fun _ _ => rfl) (fun _ _ h => h) (fun _ _ _ _ _ h => h)
  have hrow : ∀ {T sz l p}, RowAt F w' T sz l p → RowAt F' w' T sz l p := fun h => h.mono hF (fun _ _ => rfl) (fun _ _ _ => rfl)
  refine ⟨fun t => hmono (h'.fr t), ⟨fun b => ?_, h'.sr.apart, fun b r β h1 h2 hr => ?_, h'.sr.top, h'.sr.tab.mono hF (fun _ _ => rfl)⟩, ?_, h'.nt, h'.df⟩
  · have := h'.sr.bk b
    cases hk : at_ σ b with
    | dead => trivial
    | box T c =>
      rw [hk] at this
      obtain ⟨r, cs, e, h1, h2, h3, h4⟩ := this
      exact ⟨r, cs, e, h1, h2, h3, fun j x v hx hv => hmono (h4 j x v hx hv)⟩
    | row T s q => rw [hk] at this; exact hrow this
    | lend T s q => rw [hk] at this; exact hrow this
    | fz T s q => rw [hk] at this; exact ⟨hrow this.1, fun r β e => hF r (this.2 r β e)⟩
    | map T q => rw [hk] at this; exact MapAt.mono this hF (fun _ _ => rfl) (fun _ _ _ => rfl)
    | fb q => rw [hk] at this; exact FbAt.mono this hF (fun _ _ => rfl)
  · exact h.sr.own b r β h1 h2 (hold r hr (own_lt h.sr h1 h2))
  · have hi := h'.inv
    exact ⟨hi.os, hi.tape, hi.output, hi.size, fun r hr => hF r (hi.f0 r hr), hi.keep, fun r hr hl => hi.newF r (hold r hr (Nat.lt_of_lt_of_le hl h.inv.size)) hl, hi.own, hi.fix, hlt, hi.bx, hi.len⟩

theorem asL_PR {x : AV} {u : Value} {K : List PV → Prop} (h : St cx F ι fr σ a w) {b sz o n : Nat} (hx : VR F ι w (.row b sz o n) u) (hk : asLK σ [] K (.row b sz o n)) : ∃ l F', K l ∧ (∀ r, F r → F' r) ∧ (∀ r, F' r → r < w.heap.size) ∧ PR F' w (.lst l) u := by
  unfold asLK at hk
  simp only [memN, cond_false] at hk
  have hlt := h.inv.lt
  have hb := h.sr.bk b
  split at hk
  · rename_i T0 sz' l hq
    cases hz : Nat.beq sz sz' with
    | false => rw [hz] at hk; exact hk.elim
    | true =>
      rw [hz] at hk
      have := Nat.eq_of_beq_eq_true hz
      subst this
      obtain ⟨_, ⟨hl, rfl⟩, hk⟩ := hk
      rw [hq] at hb
      refine ⟨_, fun r => F r ∨ ∃ β, ι b = some (r, β), hk, fun r h => .inl h, fun r hr => ?_, rowAt_PR (hx.mono (fun _ h => .inl h) (fun _ _ => rfl) (fun _ _ h => h) (fun _ _ _ _ _ h => h)) (RowAt.mono hb (fun _ h => .inl h) (fun _ _ => rfl) (fun _ _ _ => rfl)) (fun r β e => .inr ⟨β, e⟩) hl⟩
      rcases hr with hr | ⟨β, hr⟩
      · exact hlt r hr
      · exact own_lt h.sr (by rw [hq]; rfl) hr
  · rename_i T0 sz' l hq
    cases hz : Nat.beq sz sz' with
    | false => rw [hz] at hk; exact hk.elim
    | true =>
      rw [hz] at hk
      have := Nat.eq_of_beq_eq_true hz
      subst this
      obtain ⟨_, ⟨hl, rfl⟩, hk⟩ := hk
      rw [hq] at hb
      exact ⟨_, F, hk, fun r h => h, hlt, rowAt_PR hx hb.1 hb.2 hl⟩
  · rename_i T0 sz' l hq
    cases hz : Nat.beq sz sz' with
    | false => rw [hz] at hk; exact hk.elim
    | true =>
      rw [hz] at hk
      have := Nat.eq_of_beq_eq_true hz
      subst this
      obtain ⟨_, ⟨hl, rfl⟩, hk⟩ := hk
      rw [hq] at hb
      refine ⟨_, fun r => F r ∨ ∃ β, ι b = some (r, β), hk, fun r h => .inl h, fun r hr => ?_, rowAt_PR (hx.mono (fun _ h => .inl h) (fun _ _ => rfl) (fun _ _ h => h) (fun _ _ _ _ _ h => h)) (RowAt.mono hb (fun _ h => .inl h) (fun _ _ => rfl) (fun _ _ _ => rfl)) (fun r β e => .inr ⟨β, e⟩) hl⟩
      rcases hr with hr | ⟨β, hr⟩
      · exact hlt r hr
      · exact own_lt h.sr (by rw [hq]; rfl) hr
  · exact hk.elim

theorem viewsK_ok : ∀ {l : List AV} {vs : List Value} {K : List PV → Prop}, St cx F ι fr σ a w → VRs F ι w l vs → viewsK l K σ → ∃ ys F', K ys ∧ (∀ r, F r → F' r) ∧ (∀ r, F' r → r < w.heap.size) ∧ ys.length = vs.length ∧ ∀ (j : Nat) y v, ys[j]? = some y → vs[j]? = some v → PR F' w y v
  | [], vs, K, h, hx, hk => ⟨[], F, hk, fun _ h => h, h.inv.lt, hx.1.symm, fun j y v hy => (by simp at hy)⟩
  | x :: l, [], K, h, hx, hk => by have := hx.1; simp at this
  | x :: l, v :: vs, K, h, hx, hk => by
    have h0 : VR F ι w x v := hx.2 0 x v rfl rfl
    have ht : VRs F ι w l vs := ⟨by have := hx.1; simpa using this, fun j x v hj hv => hx.2 (j + 1) x v (by simpa using hj) (by simpa using hv)⟩
    have hone : ∃ y F', viewsK l (fun ys => K (y :: ys)) σ ∧ (∀ r, F r → F' r) ∧ (∀ r, F' r → r < w.heap.size) ∧ PR F' w y v := by
      simp only [viewsK] at hk
      unfold viewPK at hk
      split at hk
      · cases h0 with
        | p _ _ hv => exact ⟨_, F, hk, fun _ h => h, h.inv.lt, hv⟩
      · cases h0 with
        | tl _ A n hn hv => exact ⟨_, F, hk, fun _ h => h, h.inv.lt, hv⟩
      · obtain ⟨l', F', h1, h2, h3, h4⟩ := asL_PR (x := .dead) h h0 hk
        exact ⟨_, F', h1, h2, h3, h4⟩
      · exact hk.elim
    obtain ⟨y, F1, hk1, hF1, hl1, hy⟩ := hone
    obtain ⟨ys, F2, hk2, hF2, hl2, hyl, hys⟩ := viewsK_ok h ht hk1
    refine ⟨y :: ys, fun r => F1 r ∨ F2 r, hk2, fun r hr => .inl (hF1 r hr), fun r hr => hr.elim (hl1 r) (hl2 r), by simp [hyl], fun j z u hz hu => ?_⟩
    cases j with
    | zero => simp at hz hu; subst hz; subst hu; exact hy.mono (fun _ h => .inl h) (fun _ _ => rfl)
    | succ j => exact (hys j z u (by simpa using hz) (by simpa using hu)).mono (fun _ h => .inr h) (fun _ _ => rfl)

/-- What is asked behind a call. -/
def After (wr : Option (List Nat)) (F : Nat → Prop) (ι : Loc) (σ : Sto) (w : World) (cx : Cx) (a : Act) (K : AV → Fr → Sto → Prop) (e : Ending) (w' : World) : Prop :=
  ∃ v x F' ι' fr' σ', e = .returned v ∧ K x fr' σ' ∧ St cx F' ι' fr' σ' a w' ∧ VR F' ι' w' x v ∧ Step wr F ι σ w F' ι' σ' w'

theorem rawL_get : ∀ {l : List PV}, rawL l = true → ∀ (j : Nat) y, l[j]? = some y → ∃ v, y = .raw v
  | [], _, j, y, hy => by simp at hy
  | .raw v :: l, h, 0, y, hy => by simp at hy; exact ⟨v, hy.symm⟩
  | .raw v :: l, h, j + 1, y, hy => rawL_get (l := l) h j y (by simpa using hy)
  | .lst _ :: l, h, j, y, hy => by cases h
  | .agg _ :: l, h, j, y, hy => by cases h

theorem callA_ok {wr : Option (List Nat)} {f : Nat} {args : List AV} {vs : List Value} {K : AV → Fr → Sto → Prop} (h : St cx F ι fr σ a w) (hx : VRs F ι w args vs) (hk : toPAs args (fun xs σ' => ∃ ys, FnP P f xs ys ∧ K (resAV (toAVs ys)) fr σ') σ) :
    Calls P f vs.toArray w (After wr F ι σ w cx a K) := by
  obtain ⟨F1, σ1, xs, ⟨ys, hf, hk⟩, hF1, h1, hl, hp, _, t1⟩ := toPAs_ok h hx.1 hx.2 hk
  refine Calls.mono (hf.calls hl hp h1.inv.lt h1.sr.tab) ?_
  rintro e w' ⟨F2, us, he, hb, hF2, ho2, hlt2, hr⟩
  have hst := h1.ext hb hF2 ho2 hlt2
  have hr' : VRs F2 ι w' (Sy.toAVs ys) us := ⟨hr.1, fun j x v hx hv => by
    have := hr.2 j x v hx hv
    rw [toAVs_get] at hx
    obtain ⟨y, hy, rfl⟩ := Option.map_eq_some_iff.mp hx
    cases this with
    | p _ _ h => exact .p _ _ h⟩
  exact ⟨_, _, F2, ι, fr, σ1, he, hk, hst, hr'.res, (t1 wr).trans (h1.stepUp hb hF2)⟩

theorem callV_ok {wr : Option (List Nat)} {f : Nat} {args : List AV} {vs : List Value} {K : AV → Fr → Sto → Prop} (h : St cx F ι fr σ a w) (hx : VRs F ι w args vs) (hk : viewsK args (fun xs => ∃ ys, (FnP P f xs ys ∧ rawL ys = true) ∧ K (resAV (toAVs ys)) fr σ) σ) :
    Calls P f vs.toArray w (After wr F ι σ w cx a K) := by
  obtain ⟨xs, F1, ⟨ys, ⟨hf, hraw⟩, hk⟩, hF1, hlt1, hl, hp⟩ := viewsK_ok h hx hk
  refine Calls.mono (hf.calls hl hp hlt1 (h.sr.tab.mono hF1 (fun _ _ => rfl))) ?_
  rintro e w' ⟨F2, us, he, hb, hF2, ho2, hlt2, hr⟩
  have hst := h.up hb
  have hr' : VRs F ι w' (Sy.toAVs ys) us := ⟨hr.1, fun j x v hx hv => by
    have := hr.2 j x v hx hv
    rw [toAVs_get] at hx
    obtain ⟨y, hy, rfl⟩ := Option.map_eq_some_iff.mp hx
    obtain ⟨u, rfl⟩ := rawL_get hraw j y hy
    cases this with
    | p _ _ h => cases h with | raw _ h1 => exact .p _ _ (.raw _ h1)⟩
  exact ⟨_, _, F, ι, fr, σ, he, hk, hst, hr'.res, h.stepUp hb (fun _ h => h)⟩

theorem ptrsK_ok : ∀ {l : List AV} {vs : List Value} {K : List AV → Sto → Prop} {F : Nat → Prop} {σ : Sto}, St cx F ι fr σ a w → VRs F ι w l vs → ptrsK l K σ →
    ∃ F' σ' ys, K ys σ' ∧ (∀ r, F r → F' r) ∧ St cx F' ι fr σ' a w ∧ VRs F' ι w ys vs ∧ ∀ wr, Step wr F ι σ w F' ι σ' w
  | [], vs, K, F, σ, h, hx, hk => ⟨F, σ, [], hk, fun _ h => h, h, ⟨hx.1, fun j y v hy => by simp at hy⟩, fun _ => Step.refl⟩
  | x :: l, [], K, F, σ, h, hx, hk => by have := hx.1; simp at this
  | x :: l, v :: vs, K, F, σ, h, hx, hk => by
    have h0 : VR F ι w x v := hx.2 0 x v rfl rfl
    have ht : VRs F ι w l vs := ⟨by have := hx.1; simpa using this, fun j x v hj hv => hx.2 (j + 1) x v (by simpa using hj) (by simpa using hv)⟩
    have hmono : ∀ {F' : Nat → Prop} {l : List AV} {vs : List Value}, (∀ r, F r → F' r) → VRs F ι w l vs → VRs F' ι w l vs := fun hF h => ⟨h.1, fun j x v hx hv => (h.2 j x v hx hv).mono hF (fun _ _ => rfl) (fun _ _ h => h) (fun _ _ _ _ _ h => h)⟩
    have fin : ∀ {F1 : Nat → Prop} {σ1 : Sto} {y : AV}, (∀ r, F r → F1 r) → St cx F1 ι fr σ1 a w → VR F1 ι w y v → ptrsK l (fun ys => K (y :: ys)) σ1 → (∀ wr, Step wr F ι σ w F1 ι σ1 w) → ∃ F' σ' ys, K ys σ' ∧ (∀ r, F r → F' r) ∧ St cx F' ι fr σ' a w ∧ VRs F' ι w ys (v :: vs) ∧ ∀ wr, Step wr F ι σ w F' ι σ' w := by
      intro F1 σ1 y hF1 h1 hy hk1 t1
      obtain ⟨F2, σ2, ys, hk2, hF2, h2, hys, t2⟩ := ptrsK_ok h1 (hmono hF1 ht) hk1
      refine ⟨F2, σ2, y :: ys, hk2, fun r hr => hF2 r (hF1 r hr), h2, ⟨by simp [hys.1], fun j z u hz hu => ?_⟩, fun wr => (t1 wr).trans (t2 wr)⟩
      cases j with
      | zero => simp at hz hu; subst hz; subst hu; exact hy.mono hF2 (fun _ _ => rfl) (fun _ _ h => h) (fun _ _ _ _ _ h => h)
      | succ j => exact hys.2 j z u (by simpa using hz) (by simpa using hu)
    unfold ptrsK at hk
    split at hk
    · rename_i e; cases e
    · rename_i b o l' K' e
      cases e
      exact fin (fun _ h => h) h h0 hk (fun _ => Step.refl)
    · rename_i b l' K' e
      cases e
      exact fin (fun _ h => h) h h0 hk (fun _ => Step.refl)
    · rename_i x' l' K' hne hne' e
      cases e
      rcases hk with hk | hk
      · obtain ⟨F1, σ1, y, hk1, hF1, h1, hy, _, t1⟩ := toPA_ok h h0 hk
        exact fin hF1 h1 (.p _ _ hy) hk1 t1
      · exact fin (fun _ h => h) h h0 hk (fun _ => Step.refl)

theorem at_selS (m : List Nat) (σ : Sto) : ∀ (l : List Nat) (k : Nat), at_ (selS m σ l) k = match nth l k with | some b => renB (gIn m) (at_ σ b) | none => .dead
  | [], k => by cases k <;> rfl
  | b :: l, 0 => rfl
  | b :: l, k + 1 => at_selS m σ l k
theorem selS_len (m : List Nat) (σ : Sto) : ∀ (l : List Nat), (selS m σ l).length = l.length
  | [] => rfl
  | b :: l => by simp [selS, selS_len m σ l]
theorem at_tab (f : Nat → Bk) : ∀ (n s b : Nat), at_ (tab f s n) b = if b < n then f (s + b) else .dead
  | 0, s, b => by simp [tab, at_nil]
  | n + 1, s, 0 => by simp [tab, at_]
  | n + 1, s, b + 1 => by
    simp only [tab, at_]
    rw [at_tab f n (s + 1) b]
    by_cases h : b < n
    · rw [if_pos h, if_pos (by omega)]; congr 1; omega
    · rw [if_neg h, if_neg (by omega)]
theorem tab_len (f : Nat → Bk) : ∀ (n s : Nat), (tab f s n).length = n
  | 0, s => rfl
  | n + 1, s => by simp [tab, tab_len f n (s + 1)]
theorem nth_more : ∀ (n s i : Nat), nth (more s n) i = if i < n then some (s + i) else none
  | 0, s, i => by simp [more, nth]
  | n + 1, s, 0 => by simp [more, nth]
  | n + 1, s, i + 1 => by
    simp only [more, nth]
    rw [nth_more n (s + 1) i]
    by_cases h : i < n
    · rw [if_pos h, if_pos (by omega)]; congr 1; omega
    · rw [if_neg h, if_neg (by omega)]
theorem nth_app {α : Type} : ∀ (l r : List α) (i : Nat), nth (l ++ r) i = if i < l.length then nth l i else nth r (i - l.length)
  | [], r, i => by simp
  | x :: l, r, 0 => by simp [nth]
  | x :: l, r, i + 1 => by
    simp only [List.cons_append, nth, List.length_cons]
    rw [nth_app l r i]
    by_cases h : i < l.length
    · rw [if_pos h, if_pos (by omega)]
    · rw [if_neg h, if_neg (by omega)]; congr 1; omega
theorem nth_lt {α : Type} : ∀ {l : List α} {k : Nat} {x : α}, nth l k = some x → k < l.length
  | [], k, x, h => by simp [nth] at h
  | y :: l, 0, x, h => by simp
  | y :: l, k + 1, x, h => by have := nth_lt (l := l) (k := k) (x := x) h; simp; omega
theorem liveM_get : ∀ {m : List Nat}, liveM σ m = true → ∀ {k b : Nat}, nth m k = some b → at_ σ b ≠ .dead
  | [], _, k, b, h => by simp [nth] at h
  | c :: l, hl, k, b, h => by
    simp only [liveM, Bool.and_eq_true] at hl
    cases k with
    | zero => simp [nth] at h; subst h; intro e; rw [e] at hl; cases hl.1
    | succ k => exact liveM_get hl.2 (k := k) h

theorem callRun_ok {wr : Option (List Nat)} {xs : List AV} {vs : List Value} {m : List Nat} {R : Ending → List Value → List AV → Sto → Prop} {Res : Ending → World → Prop} {Run : (Ending → World → Prop) → Prop} (hmono : ∀ R R' : Ending → World → Prop, (∀ e w', R e w' → R' e w') → Run R → Run R') (h : St cx F ι fr σ a w) (hx : VRs F ι w xs vs) (hn : nodupN m = true) (hlv : liveM σ m = true) (hsub : subM σ wr m = true)
    (hf : ∀ ιc, VRs F ιc w (AV.ren.renL (gIn m) xs) vs → SR F ιc w (selS m σ m) → (∀ r, F r → r < w.heap.size) → Run fun e w' => ∃ F' ι' rs τ' us, R e us rs τ' ∧ VRs F' ι' w' rs us ∧ SR F' ι' w' τ' ∧ Inv (cxOf F ιc (selS m σ m) w 0) F' ι' τ' w' ∧ (selS m σ m).length ≤ τ'.length)
    (hk : ∀ e w' us rs τ' F' ιn, m.length ≤ τ'.length → R e us rs τ' → St cx F' ιn (renF (gKill m σ) fr) (merge m σ τ') a w' → Step wr F ι σ w F' ιn (merge m σ τ') w' → VRs F' ιn w' (AV.ren.renL (gOut (mOut m σ τ')) rs) us → Res e w') :
    Run Res := by
  have hlt := h.inv.lt
  -- the callee's places
  let ιc : Loc := fun k => match nth m k with | some b => ι b | none => none
  have hιc : ∀ {k b}, nth m k = some b → ιc k = ι b := fun {k b} e => by show (match nth m k with | some b => ι b | none => none) = _; rw [e]
  have hιn : ∀ {k}, nth m k = none → ιc k = none := fun {k} e => by show (match nth m k with | some b => ι b | none => none) = _; rw [e]
  have hgin : ∀ b k q, gIn m b = some k → ι b = some q → ιc k = some q := fun b k q hg hq => by rw [hιc (idxN_some hg)]; exact hq
  have hτ : ∀ {k b}, nth m k = some b → at_ (selS m σ m) k = renB (gIn m) (at_ σ b) := fun {k b} e => by rw [at_selS, e]
  have hτn : ∀ {k}, nth m k = none → at_ (selS m σ m) k = .dead := fun {k} e => by rw [at_selS, e]
  have hτw : ∀ {k}, (at_ (selS m σ m) k).w = true → ∃ b, nth m k = some b ∧ (at_ σ b).w = true := fun {k} hw => by
    cases e : nth m k with
    | none => rw [hτn e] at hw; cases hw
    | some b => rw [hτ e, renB_w] at hw; exact ⟨b, rfl, hw⟩
  have hinj : ∀ {k k' b}, nth m k = some b → nth m k' = some b → k = k' := fun {k k' b} e e' => by
    have h1 := idxN_of hn e
    have h2 := idxN_of hn e'
    rw [h1] at h2; cases h2; rfl
  have hsrc : SR F ιc w (selS m σ m) := by
    refine ⟨fun k => ?_, fun k k' r r' β β' h1 h2 h3 h4 hne => ?_, fun k r β h1 h2 => ?_, fun k hk => ?_, h.sr.tab⟩
    · cases e : nth m k with
      | none => rw [hτn e]; trivial
      | some b => rw [hτ e, hιc e]; exact (h.sr.bk b).ren (fun _ h => h) (fun _ _ => rfl) hgin (fun _ _ h => h) (fun _ _ _ _ => rfl)
    · obtain ⟨b, e, hb⟩ := hτw h1
      obtain ⟨b', e', hb'⟩ := hτw h2
      rw [hιc e] at h3; rw [hιc e'] at h4
      exact h.sr.apart b b' r r' β β' hb hb' h3 h4 (fun hbb => hne (hinj e (hbb ▸ e')))
    · obtain ⟨b, e, hb⟩ := hτw h1
      rw [hιc e] at h2
      exact h.sr.own b r β hb h2
    · rw [selS_len] at hk
      cases e : nth m k with
      | none => exact hιn e
      | some b => have := nth_lt e; omega
  have hargs : VRs F ιc w (AV.ren.renL (gIn m) xs) vs := ⟨by rw [renL_len]; exact hx.1, fun j x v hj hv => by
    rw [renL_get] at hj
    obtain ⟨y, hy, rfl⟩ := Option.map_eq_some_iff.mp hj
    exact (hx.2 j y v hy hv).ren (fun _ h => h) (fun _ _ => rfl) hgin (fun _ _ h => h)⟩
  refine hmono _ _ ?_ (hf ιc hargs hsrc hlt)
  rintro e w' ⟨F', ι', rs, τ', us, hR, hr, hs, hi, hlen⟩
  rw [selS_len] at hlen
  -- what the callee may write
  have hO : ∀ {r}, (cxOf F ιc (selS m σ m) w 0).O r → ∃ b β k, (at_ σ b).w = true ∧ ι b = some (r, β) ∧ nth m k = some b := fun {r} ⟨k, β, h1, h2⟩ => by
    obtain ⟨b, e, hb⟩ := hτw h1
    rw [hιc e] at h2
    exact ⟨b, β, k, hb, h2, e⟩
  have hOF : ∀ {r}, F r → ¬ (cxOf F ιc (selS m σ m) w 0).O r := fun hF ho => by
    obtain ⟨b, β, k, h1, h2, _⟩ := hO ho
    exact h.sr.own b _ β h1 h2 hF
  have hF : ∀ r, F r → w'.heap[r]? = w.heap[r]? := fun r hr => hi.keep r (hlt r hr) (hOF hr)
  have hOout : ∀ {b r β}, (∀ k, nth m k ≠ some b) → at_ σ b ≠ .dead → ι b = some (r, β) → ¬ (cxOf F ιc (selS m σ m) w 0).O r := fun {b r β} hb hd hι ho => by
    obtain ⟨b', β', k, h1, h2, e⟩ := hO ho
    have hne : b ≠ b' := fun hbb => hb k (hbb ▸ e)
    cases hw : (at_ σ b).w with
    | true => exact h.sr.apart b b' r r β β' hw h1 hι h2 hne rfl
    | false =>
      have hbk := h.sr.bk b
      cases hkk : at_ σ b with
      | dead => exact hd hkk
      | box => rw [hkk] at hw; cases hw
      | row => rw [hkk] at hw; cases hw
      | lend => rw [hkk] at hw; cases hw
      | map => rw [hkk] at hw; cases hw
      | fz T sz l => rw [hkk] at hbk; exact h.sr.own b' r β' h1 h2 (hbk.2 r β hι)
      | fb l =>
        rw [hkk] at hbk
        obtain ⟨r2, cs2, T2, e2, hF2, _⟩ := hbk
        rw [hι] at e2; cases e2
        exact h.sr.own b' r β' h1 h2 hF2
  have hmlt : ∀ {k b}, nth m k = some b → b < σ.length := fun e => at_lt (liveM_get hlv e)
  -- the numbers
  let M := mOut m σ τ'
  have hMn : ∀ k, nth M k = if k < m.length then nth m k else if k < τ'.length then some (σ.length + (k - m.length)) else none := fun k => by
    show nth (m ++ more σ.length (τ'.length - m.length)) k = _
    rw [nth_app]
    by_cases h1 : k < m.length
    · rw [if_pos h1, if_pos h1]
    · rw [if_neg h1, if_neg h1, nth_more]
      by_cases h2 : k < τ'.length
      · rw [if_pos h2, if_pos (by omega)]
      · rw [if_neg h2, if_neg (by omega)]
  have hMold : ∀ {k b}, nth M k = some b → b < σ.length → nth m k = some b := fun {k b} e hb => by
    rw [hMn] at e
    split at e
    · exact e
    · split at e
      · cases e; omega
      · cases e
  have hMnew : ∀ {k b}, nth M k = some b → σ.length ≤ b → m.length ≤ k ∧ k < τ'.length ∧ b = σ.length + (k - m.length) := fun {k b} e hb => by
    rw [hMn] at e
    split at e
    · have := hmlt e; omega
    · split at e
      · cases e; omega
      · cases e
  have hMin : ∀ {k b}, nth m k = some b → nth M k = some b := fun {k b} e => by rw [hMn, if_pos (nth_lt e)]; exact e
  have hMinj : ∀ {k k' b}, nth M k = some b → nth M k' = some b → k = k' := fun {k k' b} e e' => by
    by_cases hb : b < σ.length
    · exact hinj (hMold e hb) (hMold e' hb)
    · obtain ⟨h1, h2, h3⟩ := hMnew e (by omega)
      obtain ⟨h4, h5, h6⟩ := hMnew e' (by omega)
      omega
  have hidx : ∀ {k b}, nth M k = some b → idxN b M = some k := fun {k b} e => by
    cases hq : idxN b M with
    | none => exact absurd e (idxN_none hq k)
    | some k' => rw [hMinj (idxN_some hq) e]
  let ιn : Loc := fun b => match idxN b M with | some k => ι' k | none => ι b
  have hin : ∀ {b k}, idxN b M = some k → ιn b = ι' k := fun {b k} e => by show (match idxN b M with | some k => ι' k | none => ι b) = _; rw [e]
  have hinn : ∀ {b}, idxN b M = none → ιn b = ι b := fun {b} e => by show (match idxN b M with | some k => ι' k | none => ι b) = _; rw [e]
  have hnotm : ∀ {b}, idxN b M = none → ∀ k, nth m k ≠ some b := fun e k hk => idxN_none e k (hMin hk)
  have hfix : ∀ {b k}, nth m k = some b → (at_ σ b).isBox = true → ι' k = ι b := fun {b k} e hb => by
    have : (cxOf F ιc (selS m σ m) w 0).B0 k := by show (at_ (selS m σ m) k).isBox = true; rw [hτ e, renB_box]; exact hb
    exact (hi.fix k this).trans (hιc e)
  have hgk : ∀ b k q, gKill m σ b = some k → ι b = some q → ιn k = some q := fun b k q hg hq => by
    have hbl : b < σ.length := Nat.lt_of_not_le fun hh => by rw [h.sr.top b hh] at hq; cases hq
    unfold gKill at hg
    cases hm : idxN b m with
    | none =>
      rw [hm] at hg; cases hg
      cases hM : idxN b M with
      | none => rw [hinn hM]; exact hq
      | some k' => exact absurd (hMold (idxN_some hM) hbl) (idxN_none hm k')
    | some k0 =>
      rw [hm] at hg
      simp only at hg
      split at hg
      · rename_i hb
        cases hg
        have e0 := idxN_some hm
        rw [hin (hidx (hMin e0)), hfix e0 hb]; exact hq
      · cases hg
  have hgo : ∀ k b q, gOut M k = some b → ι' k = some q → ιn b = some q := fun k b q hg hq => by rw [hin (hidx hg)]; exact hq
  have hlenw : ∀ r N, rowLen w r = some N → rowLen w' r = some N := hi.len
  have hat : ∀ b, at_ (merge m σ τ') b = if b < σ.length + (τ'.length - m.length) then (match idxN b M with | some k => renB (gOut M) (at_ τ' k) | none => renB (gKill m σ) (at_ σ b)) else .dead := fun b => by
    show at_ (tab _ 0 _) b = _
    rw [at_tab]
    by_cases hb : b < σ.length + (τ'.length - m.length)
    · rw [if_pos hb, if_pos hb, Nat.zero_add]
    · rw [if_neg hb, if_neg hb]
  have hMlt : ∀ {b k}, idxN b M = some k → b < σ.length + (τ'.length - m.length) := fun {b k} e => by
    by_cases hb : b < σ.length
    · omega
    · obtain ⟨h1, h2, h3⟩ := hMnew (idxN_some e) (by omega)
      omega
  have hatw : ∀ {b}, (at_ (merge m σ τ') b).w = true → (∃ k, idxN b M = some k ∧ (at_ τ' k).w = true) ∨ (idxN b M = none ∧ (at_ σ b).w = true) := fun {b} hw => by
    rw [hat] at hw
    split at hw
    · cases hM : idxN b M with
      | some k => rw [hM] at hw; simp only [renB_w] at hw; exact .inl ⟨k, rfl, hw⟩
      | none => rw [hM] at hw; simp only [renB_w] at hw; exact .inr ⟨rfl, hw⟩
    · cases hw
  have hdead : ∀ {b}, (at_ σ b).w = true → at_ σ b ≠ .dead := fun hw e => by rw [e] at hw; cases hw
  refine hk e w' us rs τ' F' ιn hlen hR ⟨fun t => ?_, ⟨fun b => ?_, fun b b' r r' β β' h1 h2 h3 h4 hne => ?_, fun b r β h1 h2 => ?_, fun b hb => ?_, hs.tab⟩, ?_, h.nt, h.df⟩ ?_ ?_
  · rw [look_ren]; exact (h.fr t).ren hi.f0 hF hgk hlenw
  · rw [hat]
    split
    · cases hM : idxN b M with
      | some k =>
        rw [hin hM]
        exact (hs.bk k).ren (fun _ h => h) (fun _ _ => rfl) hgo (fun _ _ h => h) (fun _ _ _ _ => rfl)
      | none =>
        rw [hinn hM]
        exact (h.sr.bk b).ren hi.f0 hF hgk hlenw (fun hd r β e => hi.keep r ((h.sr.bk b).lt hd e) (hOout (hnotm hM) hd e))
    · trivial
  · rcases hatw h1 with ⟨k, hM, hw⟩ | ⟨hM, hw⟩
    · rw [hin hM] at h3
      rcases hatw h2 with ⟨k', hM', hw'⟩ | ⟨hM', hw'⟩
      · rw [hin hM'] at h4
        refine hs.apart k k' r r' β β' hw hw' h3 h4 (fun hkk => hne ?_)
        subst hkk
        have e1 := idxN_some hM
        have e2 := idxN_some hM'
        rw [e1] at e2; cases e2; rfl
      · rw [hinn hM'] at h4
        intro err
        subst err
        exact hOout (hnotm hM') (hdead hw') h4 (hi.own k r β hw h3 (own_lt h.sr hw' h4))
    · rw [hinn hM] at h3
      rcases hatw h2 with ⟨k', hM', hw'⟩ | ⟨hM', hw'⟩
      · rw [hin hM'] at h4
        intro err
        subst err
        exact hOout (hnotm hM) (hdead hw) h3 (hi.own k' r β' hw' h4 (own_lt h.sr hw h3))
      · rw [hinn hM'] at h4
        exact h.sr.apart b b' r r' β β' hw hw' h3 h4 hne
  · rcases hatw h1 with ⟨k, hM, hw⟩ | ⟨hM, hw⟩
    · rw [hin hM] at h2; exact hs.own k r β hw h2
    · rw [hinn hM] at h2
      intro hF'
      rcases hi.newF r hF' (own_lt h.sr hw h2) with h5 | h5
      · exact h.sr.own b r β hw h2 h5
      · exact hOout (hnotm hM) (hdead hw) h2 h5
  · have hlenm : (merge m σ τ').length = σ.length + (τ'.length - m.length) := tab_len _ _ _
    rw [hlenm] at hb
    have hM : idxN b M = none := by
      cases hM : idxN b M with
      | none => rfl
      | some k => have := hMlt hM; omega
    rw [hinn hM]; exact h.sr.top b (by omega)
  · have hc := h.inv
    have hOc : ∀ {r}, r < cx.w0.heap.size → (cxOf F ιc (selS m σ m) w 0).O r → cx.O r := fun {r} hr ho => by
      obtain ⟨b, β, k, h1, h2, _⟩ := hO ho
      exact hc.own b r β h1 h2 hr
    refine ⟨hi.os.trans hc.os, hi.tape.trans hc.tape, hi.output.trans hc.output, Nat.le_trans hc.size hi.size, fun r hr => hi.f0 r (hc.f0 r hr), fun r hr hno => (hi.keep r (Nat.lt_of_lt_of_le hr hc.size) (fun ho => hno (hOc hr ho))).trans (hc.keep r hr hno),
      fun r hr hl => ?_, fun b r β h1 h2 hl => ?_, fun b hb => ?_, hi.lt, fun b hb => ?_, fun r N hN => hi.len r N (hc.len r N hN)⟩
    · rcases hi.newF r hr (Nat.lt_of_lt_of_le hl hc.size) with h5 | h5
      · exact hc.newF r h5 hl
      · exact .inr (hOc hl h5)
    · rcases hatw h1 with ⟨k, hM, hw⟩ | ⟨hM, hw⟩
      · rw [hin hM] at h2
        exact hOc hl (hi.own k r β hw h2 (Nat.lt_of_lt_of_le hl hc.size))
      · rw [hinn hM] at h2; exact hc.own b r β hw h2 hl
    · have hbx := hc.bx b hb
      have hbl := box_lt hbx
      cases hM : idxN b M with
      | none => rw [hinn hM]; exact hc.fix b hb
      | some k => rw [hin hM, hfix (hMold (idxN_some hM) hbl) hbx]; exact hc.fix b hb
    · have hbx := hc.bx b hb
      have hbl := box_lt hbx
      rw [hat, if_pos (by omega)]
      cases hM : idxN b M with
      | none => simp only [renB_box]; exact hbx
      | some k =>
        simp only [renB_box]
        refine hi.bx k ?_
        show (at_ (selS m σ m) k).isBox = true
        rw [hτ (hMold (idxN_some hM) hbl), renB_box]; exact hbx
  · have hsubM : ∀ {l : List Nat}, subM σ wr l = true → ∀ {k b}, nth l k = some b → (at_ σ b).w = true → inW b wr = true := by
      intro l
      induction l with
      | nil => intro _ k b e; simp [nth] at e
      | cons c l ih =>
        intro hs k b e hw
        simp only [subM, Bool.and_eq_true] at hs
        cases k with
        | zero =>
          simp [nth] at e
          subst e
          cases wr with
          | none => rfl
          | some ws => have := hs.1; rw [hw] at this; simpa [inW] using this
        | succ k => exact ih hs.2 e hw
    refine ⟨hi.f0, hF, fun b r β h1 h2 h3 => ?_⟩
    have hnm : ∀ k, nth m k ≠ some b := fun k e => by rw [hsubM hsub e h1] at h2; cases h2
    have hbl : b < σ.length := at_lt (hdead h1)
    have hM : idxN b M = none := by
      cases hM : idxN b M with
      | none => rfl
      | some k => exact absurd (hMold (idxN_some hM) hbl) (hnm k)
    refine ⟨hi.keep r (own_lt h.sr h1 h3) (hOout hnm (hdead h1) h3), .inr ⟨?_, by rw [hinn hM]; exact h3⟩⟩
    rw [hat, if_pos (by omega), hM]
    simp only [renB_w]; exact h1
  · have hrr : VRs F' ιn w' (AV.ren.renL (gOut M) rs) us := ⟨by rw [renL_len]; exact hr.1, fun j x v hj hv => by
      rw [renL_get] at hj
      obtain ⟨y, hy, rfl⟩ := Option.map_eq_some_iff.mp hj
      exact (hr.2 j y v hy hv).ren (fun _ h => h) (fun _ _ => rfl) hgo (fun _ _ h => h)⟩
    exact hrr

theorem callR_ok {wr : Option (List Nat)} {f : Nat} {xs : List AV} {vs : List Value} {m : List Nat} {R : Ending → List Value → List AV → Sto → Prop} {Res : Ending → World → Prop} (h : St cx F ι fr σ a w) (hx : VRs F ι w xs vs) (hn : nodupN m = true) (hlv : liveM σ m = true) (hsub : subM σ wr m = true)
    (hf : ∀ F ι w vs, VRs F ι w (AV.ren.renL (gIn m) xs) vs → SR F ι w (selS m σ m) → (∀ r, F r → r < w.heap.size) → Calls P f vs.toArray w fun e w' => ∃ F' ι' rs τ' us, R e us rs τ' ∧ VRs F' ι' w' rs us ∧ SR F' ι' w' τ' ∧ Inv (cxOf F ι (selS m σ m) w 0) F' ι' τ' w' ∧ (selS m σ m).length ≤ τ'.length)
    (hk : ∀ e w' us rs τ' F' ιn, m.length ≤ τ'.length → R e us rs τ' → St cx F' ιn (renF (gKill m σ) fr) (merge m σ τ') a w' → Step wr F ι σ w F' ιn (merge m σ τ') w' → VRs F' ιn w' (AV.ren.renL (gOut (mOut m σ τ')) rs) us → Res e w') :
    Calls P f vs.toArray w Res :=
  callRun_ok (Run := fun R => Calls P f vs.toArray w R) (fun R R' hh hr => Calls.mono hr hh) h hx hn hlv hsub (fun ιc a b c => hf F ιc w vs a b c) hk
theorem callG_ok {wr : Option (List Nat)} {f : Nat} {xs : List AV} {vs : List Value} {m : List Nat} {Post : List AV → Sto → Prop} {K : AV → Fr → Sto → Prop} (h : St cx F ι fr σ a w) (hx : VRs F ι w xs vs) (hn : nodupN m = true) (hlv : liveM σ m = true) (hsub : subM σ wr m = true)
    (hf : Fn P f (AV.ren.renL (gIn m) xs) (selS m σ m) Post) (hk : ∀ rs τ', m.length ≤ τ'.length → Post rs τ' → K (resAV (AV.ren.renL (gOut (mOut m σ τ')) rs)) (renF (gKill m σ) fr) (merge m σ τ')) :
    Calls P f vs.toArray w (After wr F ι σ w cx a K) := by
  refine callR_ok (R := fun e us rs τ' => e = .returned (resV us) ∧ Post rs τ') h hx hn hlv hsub (fun F ι w vs a b c => (hf.2 F ι w vs a b c).mono ?_) ?_
  · rintro e w' ⟨F', ι', rs, τ', us, he, hp, h1, h2, h3, h4⟩
    exact ⟨F', ι', rs, τ', us, ⟨he, hp⟩, h1, h2, h3, h4⟩
  · rintro e w' us rs τ' F' ιn hl ⟨he, hp⟩ hs ht hr
    exact ⟨_, _, F', ιn, _, _, he, hk rs τ' hl hp, hs, hr.res, ht⟩

/-- A function that may panic: what it panics with, and what it leaves then. -/
def FnE (P : Program) (f : Nat) (args : List AV) (τ : Sto) (Post : List AV → Sto → Prop) (Pan : Value → Sto → Prop) : Prop :=
  callable P f = true ∧ ∀ F ι w vs, VRs F ι w args vs → SR F ι w τ → (∀ r, F r → r < w.heap.size) →
    Calls P f vs.toArray w fun e w' => ∃ F' ι' rs τ' us, ((e = .returned (resV us) ∧ Post rs τ') ∨ (us = [] ∧ rs = [] ∧ ∃ v, e = .panicked [{ v := v, recovered := false }] ∧ Pan v τ')) ∧ VRs F' ι' w' rs us ∧ SR F' ι' w' τ' ∧ Inv (cxOf F ι τ w 0) F' ι' τ' w' ∧ τ.length ≤ τ'.length
def callE (P : Program) (wr : Option (List Nat)) (fr : Fr) (σ : Sto) (K : AV → Fr → Sto → Prop) (Kp : Value → Fr → Sto → Prop) (f : Nat) (args : List AV) : Prop :=
  ptrsK args (fun xs σ' => ∃ m, (nodupN m && liveM σ' m && subM σ' wr m) = true ∧ ∃ (Post : List AV → Sto → Prop) (Pan : Value → Sto → Prop), FnE P f (AV.ren.renL (gIn m) xs) (selS m σ' m) Post Pan ∧
    (∀ rs τ', m.length ≤ τ'.length → Post rs τ' → K (resAV (AV.ren.renL (gOut (mOut m σ' τ')) rs)) (renF (gKill m σ') fr) (merge m σ' τ')) ∧
    (∀ v τ', m.length ≤ τ'.length → Pan v τ' → Kp v (renF (gKill m σ') fr) (merge m σ' τ'))) σ
def Panicked (wr : Option (List Nat)) (F : Nat → Prop) (ι : Loc) (σ : Sto) (w : World) (cx : Cx) (a : Act) (Kp : Value → Fr → Sto → Prop) (e : Ending) (w' : World) : Prop :=
  ∃ v F' ι' fr' σ', e = .panicked [{ v := v, recovered := false }] ∧ Kp v fr' σ' ∧ St cx F' ι' fr' σ' a w' ∧ Step wr F ι σ w F' ι' σ' w'
theorem callE_ok {wr : Option (List Nat)} {f : Nat} {args : List AV} {vs : List Value} {K : AV → Fr → Sto → Prop} {Kp : Value → Fr → Sto → Prop} (h : St cx F ι fr σ a w) (hx : VRs F ι w args vs) (hk : callE P wr fr σ K Kp f args) :
    Calls P f vs.toArray w fun e w' => After wr F ι σ w cx a K e w' ∨ Panicked wr F ι σ w cx a Kp e w' := by
  obtain ⟨F1, σ1, xs, ⟨m, hm, Post, Pan, hf, hk, hkp⟩, hF1, h1, hxs, t1⟩ := ptrsK_ok h hx hk
  simp only [Bool.and_eq_true] at hm
  refine callR_ok (wr := wr) (R := fun e us rs τ' => (e = .returned (resV us) ∧ Post rs τ') ∨ (us = [] ∧ rs = [] ∧ ∃ v, e = .panicked [{ v := v, recovered := false }] ∧ Pan v τ')) h1 hxs hm.1.1 hm.1.2 hm.2 hf.2 ?_
  rintro e w' us rs τ' F' ιn hl hR hs ht hr
  rcases hR with ⟨he, hp⟩ | ⟨rfl, rfl, v, he, hp⟩
  · exact .inl ⟨_, _, F', ιn, _, _, he, hk rs τ' hl hp, hs, hr.res, (t1 wr).trans ht⟩
  · exact .inr ⟨v, F', ιn, _, _, he, hkp v τ' hl hp, hs, (t1 wr).trans ht⟩

theorem St.setk {b : Nat} {k' : Bk} (h : St cx F ι fr σ a w) (hn : at_ σ b ≠ .dead) (hb : BR F ι w (at_ σ b) (ι b) → BR F ι w k' (ι b)) (hw : k'.w = (at_ σ b).w) (hx : cx.B0 b → k'.isBox = true) : St cx F ι fr (set_ σ b k') a w ∧ ∀ c, (at_ (set_ σ b k') c).w = (at_ σ c).w := by
  have hww : ∀ c, (at_ (set_ σ b k') c).w = (at_ σ c).w := fun c => by
    by_cases e : c = b
    · subst e; rw [at_set_self σ c k' hn, hw]
    · rw [at_set_ne σ b c k' e]
  refine ⟨⟨h.fr, ⟨fun c => ?_, fun c c' r r' β β' h1 h2 => h.sr.apart c c' r r' β β' (by rw [← hww c]; exact h1) (by rw [← hww c']; exact h2), fun c r β h1 => h.sr.own c r β (by rw [← hww c]; exact h1), fun c hc => h.sr.top c (by rwa [set_length] at hc), h.sr.tab⟩,
    ⟨h.inv.os, h.inv.tape, h.inv.output, h.inv.size, h.inv.f0, h.inv.keep, h.inv.newF, fun c r β h1 => h.inv.own c r β (by rw [← hww c]; exact h1), h.inv.fix, h.inv.lt, fun c hc => ?_, h.inv.len⟩, h.nt, h.df⟩, hww⟩
  · by_cases e : c = b
    · subst e; rw [at_set_self σ c k' hn]; exact hb (h.sr.bk c)
    · rw [at_set_ne σ b c k' e]; exact h.sr.bk c
  · by_cases e : c = b
    · subst e; rw [at_set_self σ c k' hn]; exact hx hc
    · rw [at_set_ne σ b c k' e]; exact h.inv.bx c hc
theorem lendS_ok : ∀ {ls : List Nat} {σ : Sto}, lendOK ls σ = true → St cx F ι fr σ a w → St cx F ι fr (lendS ls σ) a w ∧ (∀ c, (at_ (lendS ls σ) c).w = (at_ σ c).w) ∧ ∀ b ∈ ls, ¬ cx.B0 b
  | [], σ, _, h => ⟨h, fun _ => rfl, fun b hb => by simp at hb⟩
  | b :: ls, σ, hl, h => by
    simp only [lendOK, Bool.and_eq_true] at hl
    obtain ⟨h1, h2⟩ := hl
    cases hk : at_ σ b with
    | row T sz l =>
      have e : lend1 b σ = set_ σ b (.lend T sz l) := by unfold lend1; rw [hk]
      rw [e] at h2
      have hnb : ¬ cx.B0 b := fun hb => by have := h.inv.bx b hb; rw [hk] at this; cases this
      obtain ⟨h3, h4⟩ := h.setk (k' := .lend T sz l) (by rw [hk]; simp) (by rw [hk]; exact fun x => x) (by rw [hk]; rfl) (fun hb => rfl)
      obtain ⟨h5, h6, h7⟩ := lendS_ok h2 h3
      show St cx F ι fr (lendS ls (lend1 b σ)) a w ∧ (∀ c, (at_ (lendS ls (lend1 b σ)) c).w = _) ∧ _
      rw [e]
      exact ⟨h5, fun c => (h6 c).trans (h4 c), fun c hc => by
        rcases List.mem_cons.mp hc with rfl | hc
        · exact hnb
        · exact h7 c hc⟩
    | _ => rw [hk] at h1; cases h1
theorem unlS_ok : ∀ {ls : List Nat} {σ : Sto}, (∀ b ∈ ls, ¬ cx.B0 b) → St cx F ι fr σ a w → St cx F ι fr (unlS ls σ) a w ∧ ∀ c, (at_ (unlS ls σ) c).w = (at_ σ c).w
  | [], σ, _, h => ⟨h, fun _ => rfl⟩
  | b :: ls, σ, hl, h => by
    have hl' : ∀ b ∈ ls, ¬ cx.B0 b := fun c hc => hl c (List.mem_cons_of_mem _ hc)
    have hnb := hl b (List.mem_cons_self ..)
    show St cx F ι fr (unlS ls (unl1 b σ)) a w ∧ ∀ c, (at_ (unlS ls (unl1 b σ)) c).w = _
    cases hk : at_ σ b with
    | lend T sz l =>
      have e : unl1 b σ = set_ σ b (.row T sz l) := by unfold unl1; rw [hk]
      obtain ⟨h3, h4⟩ := h.setk (k' := .row T sz l) (by rw [hk]; simp) (by rw [hk]; exact fun x => x) (by rw [hk]; rfl) (fun hb => absurd hb hnb)
      obtain ⟨h5, h6⟩ := unlS_ok hl' h3
      rw [e]
      exact ⟨h5, fun c => (h6 c).trans (h4 c)⟩
    | _ =>
      have e : unl1 b σ = σ := by unfold unl1; rw [hk]
      rw [e]
      exact unlS_ok hl' h
theorem callK_ok {wr : Option (List Nat)} {f : Nat} {args : List AV} {vs : List Value} {K : AV → Fr → Sto → Prop} (h : St cx F ι fr σ a w) (hx : VRs F ι w args vs) (hk : callK P wr fr σ K f args) : Calls P f vs.toArray w (After wr F ι σ w cx a K) := by
  rcases hk with hk | hk | hk | ⟨ls, hls, hk⟩
  rotate_left 3
  · obtain ⟨hL, hwL, hB⟩ := lendS_ok hls h
    obtain ⟨F1, σ1, xs, ⟨m, hm, Post, hf, hk⟩, hF1, h1, hxs, t1⟩ := ptrsK_ok hL hx hk
    simp only [Bool.and_eq_true] at hm
    refine Calls.mono (callG_ok (wr := wr) (K := fun v fr' σ' => K v fr' (unlS ls σ')) h1 hxs hm.1.1 hm.1.2 hm.2 hf hk) ?_
    rintro e w' ⟨v, x, F', ι', fr', σ', h1, h2, h3, h4, h5⟩
    obtain ⟨h6, h7⟩ := unlS_ok hB h3
    have h8 := (t1 wr).trans h5
    refine ⟨v, x, F', ι', fr', _, h1, h2, h6, h4, ⟨h8.f, h8.fw, fun b r β c1 c2 c3 => ?_⟩⟩
    obtain ⟨d1, d2⟩ := h8.b b r β (by rw [hwL]; exact c1) c2 c3
    exact ⟨d1, d2.imp id fun ⟨d3, d4⟩ => ⟨by rw [h7]; exact d3, d4⟩⟩
  · exact callA_ok h hx hk
  · exact callV_ok h hx hk
  · obtain ⟨F1, σ1, xs, ⟨m, hm, Post, hf, hk⟩, hF1, h1, hxs, t1⟩ := ptrsK_ok h hx hk
    simp only [Bool.and_eq_true] at hm
    refine Calls.mono (callG_ok (wr := wr) h1 hxs hm.1.1 hm.1.2 hm.2 hf hk) ?_
    rintro e w' ⟨v, x, F', ι', fr', σ', h1, h2, h3, h4, h5⟩
    exact ⟨v, x, F', ι', fr', σ', h1, h2, h3, h4, (t1 wr).trans h5⟩
end
end Go.Proofs.Sy
