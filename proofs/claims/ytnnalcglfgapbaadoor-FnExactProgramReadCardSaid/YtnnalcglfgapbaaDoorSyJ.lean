/- Code and functions. -/
import Derived.Test.YtnnalcglfgapbaaDoorSyP
set_option linter.unusedVariables false
set_option linter.unusedSimpArgs false
namespace Go.Proofs.Sy
open Go Go.RowKit

/-! ### Weaker states -/
def AV.low (n : Nat) : AV → Bool
  | .ptr b _ => Nat.blt b n
  | .el b _ _ _ => Nat.blt b n
  | .row b _ _ _ => Nat.blt b n
  | .agg l => lowL n l
  | .tup l => lowL n l
  | .mp b => Nat.blt b n
  | .fn _ l => lowL n l
  | _ => true
where lowL (n : Nat) : List AV → Bool
  | [] => true
  | x :: l => x.low n && lowL n l
def belowF (n : Nat) : Fr → Bool
  | [] => true
  | (_, x) :: r => x.low n && belowF n r
def belowS (n : Nat) : Sto → Bool
  | [] => true
  | .box _ c :: r => AV.low.lowL n c && belowS n r
  | _ :: r => belowS n r
def okAV : AV → AV → Prop
  | .dead, _ => True
  | .row b sz o n, .tl l => l = [] ∧ n = 0
  | .p x, .tl l => x = .lst l
  | x', x => x' = x
def okL : List AV → List AV → Prop
  | [], [] => True
  | x' :: l', x :: l => okAV x' x ∧ okL l' l
  | _, _ => False
def okFr (fr : Fr) : Fr → Prop
  | [] => True
  | (t, x) :: r => okAV x (look t fr) ∧ okFr fr r
def okBk : Bk → Bk → Prop
  | .dead, _ => True
  | .box T' c', .box T c => T' = T ∧ okL c' c
  | k', k => k' = k
def okS : Sto → Sto → Prop
  | [], _ => True
  | k' :: r', k :: r => okBk k' k ∧ okS r' r
  | _ :: _, [] => False
def keepB (σ σ' : Sto) : Nat → Bool
  | 0 => true
  | n + 1 => (match (at_ σ n).isBox, (at_ σ' n).isBox with | true, false => false | _, _ => true) && keepB σ σ' n
def nilRows : List (TypeId × Nat) → Sto
  | [] => []
  | (T, sz) :: r => bif Nat.beq T 999999 || Nat.beq T 888888 then nilRows r else .row T sz [] :: nilRows r
/-- Entries (888888, b): the row b is not written any more. -/
def fzOf : List (TypeId × Nat) → List Nat
  | [] => []
  | (T, b) :: r => bif Nat.beq T 888888 then b :: fzOf r else fzOf r
def frz (b : Nat) (σ : Sto) : Sto := bif Nat.ble 1000000 b then (match at_ σ (b - 1000000) with
    | .row T sz l => set_ σ (b - 1000000) (.row T sz [])
    | _ => σ)
  else match at_ σ b with
    | .row T sz l => set_ σ b (.fz T sz l)
    | _ => σ
def frzS : List Nat → Sto → Sto
  | [], σ => σ
  | b :: l, σ => frzS l (frz b σ)
/-- Entries (999999, b) number the blocks anew. -/
def gcOf : List (TypeId × Nat) → List Nat
  | [] => []
  | (T, b) :: r => bif Nat.beq T 999999 then b :: gcOf r else gcOf r
def idM : Nat → Nat → List Nat → Bool
  | 0, _, _ => true
  | _ + 1, _, [] => false
  | n + 1, i, b :: l => Nat.beq b i && idM n (i + 1) l
def gcB (nb : Nat) (m : List Nat) : Bool := match m with | [] => true | m => nodupN m && idM nb 0 m
def gcF (m : List Nat) (fr : Fr) : Fr := match m with | [] => fr | m => renF (gIn m) fr
def gcS (m : List Nat) (σ : Sto) : Sto := match m with | [] => σ | m => selS m σ m
def Weak (nb : Nat) (fr : Fr) (σ : Sto) (s : Fr × Sto) : Prop :=
  ∃ nils, okFr (gcF (gcOf nils) fr) s.1 ∧ okS s.2 (gcS (gcOf nils) (frzS (fzOf nils) σ) ++ nilRows nils) ∧ (belowF s.2.length s.1 && belowS s.2.length s.2 && Nat.ble nb s.2.length && keepB (gcS (gcOf nils) (frzS (fzOf nils) σ)) s.2 nb && gcB nb (gcOf nils)) = true

def strip : List (TypeId × Nat) → List (TypeId × Nat)
  | [] => []
  | (T, sz) :: r => bif Nat.beq T 999999 || Nat.beq T 888888 then strip r else (T, sz) :: strip r
theorem strip_rows : ∀ l, nilRows (strip l) = nilRows l
  | [] => rfl
  | (T, sz) :: r => by
    simp only [strip, nilRows]
    cases h : (Nat.beq T 999999 || Nat.beq T 888888) with
    | true => exact strip_rows r
    | false => simp only [cond_false, nilRows, h, strip_rows r]
theorem strip_gc : ∀ l, gcOf (strip l) = []
  | [] => rfl
  | (T, sz) :: r => by
    simp only [strip]
    cases h : (Nat.beq T 999999 || Nat.beq T 888888) with
    | true => exact strip_gc r
    | false =>
      have h1 := (Bool.or_eq_false_iff.mp h).1
      simp only [cond_false, gcOf, h1, strip_gc r]
theorem strip_fz : ∀ l, fzOf (strip l) = []
  | [] => rfl
  | (T, sz) :: r => by
    simp only [strip]
    cases h : (Nat.beq T 999999 || Nat.beq T 888888) with
    | true => exact strip_fz r
    | false =>
      have h1 := (Bool.or_eq_false_iff.mp h).2
      simp only [cond_false, fzOf, h1, strip_fz r]
theorem Weak.of0 {nb : Nat} {fr : Fr} {σ : Sto} {s : Fr × Sto} (h : ∃ nils, okFr fr s.1 ∧ okS s.2 (σ ++ nilRows nils) ∧ (belowF s.2.length s.1 && belowS s.2.length s.2 && Nat.ble nb s.2.length && keepB σ s.2 nb) = true) : Weak nb fr σ s := by
  obtain ⟨nl, h1, h2, h3⟩ := h
  refine ⟨strip nl, ?_, ?_, ?_⟩
  · rw [strip_gc]; exact h1
  · rw [strip_gc, strip_fz, strip_rows]; exact h2
  · rw [strip_gc, strip_fz]; show (_ && true) = true; rw [Bool.and_true]; exact h3

section
variable {P : Program} {cx : Cx} {F : Nat → Prop} {ι : Loc} {fr : Fr} {σ : Sto} {a : Act} {w w' : World}

theorem belowL_get {n : Nat} : ∀ {l : List AV}, AV.low.lowL n l = true → ∀ {j : Nat} {x : AV}, l[j]? = some x → x.low n = true
  | [], _, j, x, hx => by simp at hx
  | y :: l, h, j, x, hx => by
    simp only [AV.low.lowL, Bool.and_eq_true] at h
    cases j with
    | zero => simp at hx; subst hx; exact h.1
    | succ j => exact belowL_get h.2 (by simpa using hx)

theorem blt_lt {a b : Nat} (h : Nat.blt a b = true) : a < b := Nat.le_of_ble_eq_true h

def cut_ (ι : Loc) (n : Nat) : Loc := fun b => if b < n then ι b else none
theorem VR.cut {x : AV} {v : Value} {n : Nat} (h : VR F ι w x v) (hb : x.low n = true) : VR F (cut_ ι n) w x v := by
  induction h with
  | dead v => exact .dead v
  | p x v h => exact .p x v h
  | tl l A n hn h => exact .tl l A n hn h
  | ptr c off r h => exact .ptr c off r (by unfold cut_; rw [if_pos (blt_lt hb)]; exact h)
  | el c sz i off r β h => exact .el c sz i off r β (by unfold cut_; rw [if_pos (blt_lt hb)]; exact h)
  | fp x off r o vals a1 a2 a3 a4 => exact .fp x off r o vals a1 a2 a3 a4
  | row c sz o n r β cc N h a2 a3 a4 => exact .row c sz o n r β cc N (by unfold cut_; rw [if_pos (blt_lt hb)]; exact h) a2 a3 a4
  | row0 c sz o A => exact .row0 c sz o A
  | agg l vs hl h1 hp ih => exact .agg l vs hl h1 fun j y v hy hv => ih j y v hy hv (belowL_get hb hy)
  | tup l vs hl hp ih => exact .tup l vs hl fun j y v hy hv => ih j y v hy hv (belowL_get hb hy)
  | mp c r h => exact .mp c r (by unfold cut_; rw [if_pos (blt_lt hb)]; exact h)
  | fn f l vs hl hp ih => exact .fn f l vs hl fun j y v hy hv => ih j y v hy hv (belowL_get hb hy)

theorem okAV_ok {x' x : AV} {v : Value} (h : VR F ι w x v) (ho : okAV x' x) : VR F ι w x' v := by
  unfold okAV at ho
  split at ho
  · exact .dead v
  · obtain ⟨rfl, rfl⟩ := ho
    cases h with
    | tl _ A n hn h => subst hn; exact .row0 _ _ _ A
  · subst ho
    cases h with
    | tl _ A n hn h => exact .p _ _ h
  · subst ho; exact h

theorem okFr_look : ∀ {fr' : Fr}, okFr fr fr' → ∀ t, okAV (look t fr') (look t fr)
  | [], _, t => trivial
  | (k, x) :: r, h, t => by
    simp only [look]
    by_cases e : k = t
    · subst e; rw [beq_tt]; exact h.1
    · rw [beq_ff e]; exact okFr_look h.2 t
theorem belowF_look {n : Nat} : ∀ {fr' : Fr}, belowF n fr' = true → ∀ t, (look t fr').low n = true
  | [], _, t => rfl
  | (k, x) :: r, h, t => by
    simp only [belowF, Bool.and_eq_true] at h
    simp only [look]
    by_cases e : k = t
    · subst e; rw [beq_tt]; exact h.1
    · rw [beq_ff e]; exact belowF_look h.2 t
theorem okS_at : ∀ {σ' σ : Sto}, okS σ' σ → ∀ b, okBk (at_ σ' b) (at_ σ b)
  | [], σ, _, b => by rw [at_nil]; trivial
  | k' :: r', k :: r, h, 0 => h.1
  | k' :: r', k :: r, h, b + 1 => okS_at h.2 b
  | _ :: _, [], h, b => h.elim
theorem okS_len : ∀ {σ' σ : Sto}, okS σ' σ → σ'.length ≤ σ.length
  | [], σ, _ => Nat.zero_le _
  | k' :: r', k :: r, h => by have := okS_len h.2; simp; omega
  | _ :: _, [], h => h.elim
theorem belowS_at {n : Nat} : ∀ {σ : Sto}, belowS n σ = true → ∀ {b : Nat} {T : TypeId} {c : List AV}, at_ σ b = .box T c → AV.low.lowL n c = true
  | [], _, b, T, c, hc => by rw [at_nil] at hc; cases hc
  | k :: r, h, 0, T, c, hc => by
    have hc' : k = .box T c := hc
    subst hc'
    simp only [belowS, Bool.and_eq_true] at h
    exact h.1
  | k :: r, h, b + 1, T, c, hc => by
    have h2 : belowS n r = true := by
      cases k <;> first | exact h | (simp only [belowS, Bool.and_eq_true] at h; exact h.2)
    exact belowS_at h2 (b := b) hc
theorem okL_get : ∀ {l' l : List AV}, okL l' l → l'.length = l.length ∧ ∀ (j : Nat) x', l'[j]? = some x' → ∃ x, l[j]? = some x ∧ okAV x' x
  | [], [], _ => ⟨rfl, fun j x' hx => by simp at hx⟩
  | x' :: l', x :: l, h => by
    obtain ⟨h1, h2⟩ := okL_get h.2
    refine ⟨by simp [h1], fun j y hy => ?_⟩
    cases j with
    | zero => simp at hy; subst hy; exact ⟨x, rfl, h.1⟩
    | succ j => exact h2 j y (by simpa using hy)
  | [], _ :: _, h => h.elim
  | _ :: _, [], h => h.elim
theorem keepB_get {σ' : Sto} : ∀ {n : Nat}, keepB σ σ' n = true → ∀ b, b < n → (at_ σ b).isBox = true → (at_ σ' b).isBox = true
  | 0, _, b, hb, _ => by omega
  | n + 1, h, b, hb, hx => by
    simp only [keepB, Bool.and_eq_true] at h
    by_cases e : b = n
    · subst e
      cases h2 : (at_ σ' b).isBox with
      | true => rfl
      | false => rw [hx, h2] at h; exact absurd h.1 (by simp)
    · exact keepB_get h.2 b (by omega) hx

theorem St.nils (h : St cx F ι fr σ a w) : ∀ (l : List (TypeId × Nat)), St cx F ι fr (σ ++ nilRows l) a w := by
  intro l
  induction l generalizing σ with
  | nil => simpa [nilRows] using h
  | cons sz l ih =>
    obtain ⟨T, sz⟩ := sz
    cases hT : (Nat.beq T 999999 || Nat.beq T 888888) with
    | true => simpa only [nilRows, hT, cond_true] using ih h
    | false =>
      have := ih (h.newNil T sz)
      simpa only [nilRows, hT, cond_false, List.append_assoc, List.singleton_append] using this
theorem frzG : ∀ (l : List Nat) {σ : Sto}, Good cx fr σ a w → Good cx fr (frzS l σ) a w
  | [], σ, h => h
  | b :: l, σ, h => by
    refine frzG l ?_
    unfold frz
    cases Nat.ble 1000000 b with
    | true =>
      simp only [cond_true]
      split
      · rename_i T sz q hq
        obtain ⟨F, ι, h⟩ := h
        refine ⟨F, ι, (h.setk (k' := .row T sz []) (by rw [hq]; simp) (fun hb => ?_) (by rw [hq]; rfl) (fun hb => ?_)).1⟩
        · rw [hq] at hb
          cases hp : ι (b - 1000000) with
          | none => rfl
          | some q' =>
            obtain ⟨r, β⟩ := q'
            rw [hp] at hb
            obtain ⟨cs, h1, h2, _⟩ := hb
            exact ⟨cs, h1, by simp only [List.length_nil]; omega, fun i x hx => by simp at hx, fun i x j y v hx => by simp at hx⟩
        · have := h.inv.bx _ hb
          rw [hq] at this; cases this
      · exact h
    | false =>
      simp only [cond_false]
      split
      · rename_i T sz q hq
        obtain ⟨F, ι, h⟩ := h
        obtain ⟨F', _, h', _⟩ := h.freeze hq
        exact ⟨F', ι, h'⟩
      · exact h

theorem idM_nth : ∀ (n i : Nat) (l : List Nat), idM n i l = true → ∀ b, b < n → nth l b = some (i + b)
  | 0, i, l, _, b, hb => absurd hb (Nat.not_lt_zero _)
  | n + 1, i, [], h, b, hb => by cases h
  | n + 1, i, c :: l, h, b, hb => by
    simp only [idM, Bool.and_eq_true] at h
    cases b with
    | zero => have := Nat.eq_of_beq_eq_true h.1; subst this; rfl
    | succ b => have := idM_nth n (i + 1) l h.2 b (by omega); simp only [nth]; rw [this]; congr 1; omega
theorem gcG {nb : Nat} (m : List Nat) (h : Good cx fr σ a w) (hB : ∀ b, cx.B0 b → b < nb) (hm : gcB nb m = true) : Good cx (gcF m fr) (gcS m σ) a w := by
  cases m with
  | nil => exact h
  | cons b l =>
    simp only [gcB, Bool.and_eq_true] at hm
    exact gc_ok (nb := nb) h hB hm.1 (fun b hb => by have := idM_nth nb 0 _ hm.2 b hb; simpa using this)

theorem weak_ok {nb : Nat} {s : Fr × Sto} (h : Good cx fr σ a w) (hB : ∀ b, cx.B0 b → b < nb) (hw : Weak nb fr σ s) : Good cx s.1 s.2 a w := by
  obtain ⟨fr', σ'⟩ := s
  obtain ⟨nl, hf, hs, hb⟩ := hw
  simp only [Bool.and_eq_true] at hb
  obtain ⟨⟨⟨⟨hb1, hb2⟩, hb3⟩, hb4⟩, hb5⟩ := hb
  have h := gcG _ (frzG (fzOf nl) h) hB hb5
  generalize gcF (gcOf nl) fr = fr at h hf
  generalize gcS (gcOf nl) (frzS (fzOf nl) σ) = σ at h hs hb4
  obtain ⟨F, ι, h0⟩ := h
  have h := h0.nils nl
  have hlen := okS_len hs
  have hsub : ∀ c r, cut_ ι σ'.length c = some r → c < σ'.length ∧ ι c = some r := fun c r hc => by
    unfold cut_ at hc
    split at hc
    · rename_i hlt; exact ⟨hlt, hc⟩
    · cases hc
  have hcut : ∀ {c}, c < σ'.length → cut_ ι σ'.length c = ι c := fun {c} hc => by unfold cut_; rw [if_pos hc]
  have hww : ∀ {c}, (at_ σ' c).w = true → c < σ'.length ∧ (at_ (σ ++ nilRows nl) c).w = true := fun {c} hc => by
    refine ⟨at_lt (fun e => by rw [e] at hc; cases hc), ?_⟩
    have := okS_at hs c
    cases hk : at_ σ' c with
    | dead => rw [hk] at hc; cases hc
    | fz => rw [hk] at hc; cases hc
    | box T d =>
      rw [hk] at this
      cases hk2 : at_ (σ ++ nilRows nl) c with
      | box T e => rfl
      | _ => rw [hk2] at this; simp [okBk] at this
    | row T sz l => rw [hk] at this; simp only [okBk] at this; rw [← this]; rfl
    | lend T sz l => rw [hk] at this; simp only [okBk] at this; rw [← this]; rfl
    | map T l => rw [hk] at this; simp only [okBk] at this; rw [← this]; rfl
    | fb l => rw [hk] at hc; cases hc
  refine ⟨F, cut_ ι σ'.length, fun t => (okAV_ok (h.fr t) (okFr_look hf t)).cut (belowF_look hb1 t), ⟨fun b => ?_, fun b b' r r' β β' h1 h2 h3 h4 hne => ?_, fun b r β h1 h2 => ?_, fun b hb => ?_, h.sr.tab⟩, ?_, h.nt, h.df⟩
  · by_cases hbl : b < σ'.length
    · rw [hcut hbl]
      have h1 := okS_at hs b
      have h2 := h.sr.bk b
      cases hk : at_ σ' b with
      | dead => trivial
      | box T d =>
        have hbd := belowS_at hb2 hk
        rw [hk] at h1
        cases hk2 : at_ (σ ++ nilRows nl) b with
        | box T' e =>
          rw [hk2] at h1 h2
          obtain ⟨hT, h1⟩ := h1
          subst hT
          obtain ⟨hl, hg⟩ := okL_get h1
          obtain ⟨r, cs, e1, e2, e3, e4, e5⟩ := h2
          refine ⟨r, cs, e1, e2, by rw [e3, hl], e4, fun j x v hx hv => ?_⟩
          obtain ⟨y, hy, ho⟩ := hg j x hx
          exact (okAV_ok (e5 j y v hy hv) ho).cut (belowL_get hbd hx)
        | _ => rw [hk2] at h1; simp [okBk] at h1
      | row T sz l =>
        rw [hk] at h1
        simp only [okBk] at h1
        rw [← h1] at h2
        exact h2
      | lend T sz l =>
        rw [hk] at h1
        simp only [okBk] at h1
        rw [← h1] at h2
        exact h2
      | fz T sz l =>
        rw [hk] at h1
        simp only [okBk] at h1
        rw [← h1] at h2
        exact h2
      | map T l =>
        rw [hk] at h1
        simp only [okBk] at h1
        rw [← h1] at h2
        exact h2
      | fb l =>
        rw [hk] at h1
        simp only [okBk] at h1
        rw [← h1] at h2
        exact h2
    · rw [at_big σ' b (by omega)]; trivial
  · obtain ⟨l1, w1⟩ := hww h1
    obtain ⟨l2, w2⟩ := hww h2
    rw [hcut l1] at h3
    rw [hcut l2] at h4
    exact h.sr.apart b b' r r' β β' w1 w2 h3 h4 hne
  · obtain ⟨l1, w1⟩ := hww h1
    rw [hcut l1] at h2
    exact h.sr.own b r β w1 h2
  · have hb' : σ'.length ≤ b := hb
    unfold cut_; rw [if_neg (by omega)]
  · have hi := h.inv
    have hnb := Nat.le_of_ble_eq_true hb3
    exact ⟨hi.os, hi.tape, hi.output, hi.size, hi.f0, hi.keep, hi.newF, fun b r β h1 h2 hr => by
      obtain ⟨l1, w1⟩ := hww h1
      rw [hcut l1] at h2
      exact hi.own b r β w1 h2 hr, fun b hb => by rw [hcut (Nat.lt_of_lt_of_le (hB b hb) hnb)]; exact hi.fix b hb, hi.lt, fun b hb => keepB_get hb4 b (hB b hb) (h0.inv.bx b hb), hi.len⟩
end
end Go.Proofs.Sy
