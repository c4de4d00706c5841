/- Operations that change memory: stores, literals. -/
import Derived.Test.YtnnalcglfgapbaaDoorSyE
import Derived.Great.BuildSlice
import Derived.Laws.MakeOwn
set_option linter.unusedVariables false
set_option linter.unusedSimpArgs false
namespace Go.Proofs.Sy
open Go Go.RowKit

def storeK (P : Program) (T : TypeId) (σ : Sto) (K : Sto → Prop) (val : AV) : AV → Prop
  | .ptr b off => match at_ σ b with
    | .box T0 c => match avCells val with
      | some vs => match Nat.beq vs.length (szOf P T), Nat.ble (off + vs.length) c.length, Nat.beq (szOf P T) 0 with
        | true, true, false => K (set_ σ b (.box T0 (spl off vs c)))
        | _, _, _ => False
      | none => False
    | _ => False
  | .el b sz i off => toPA (fun y σ' => match at_ σ' b with
    | .row T0 sz' l => match Nat.beq sz sz', Nat.beq (szOf P T) sz, Nat.beq (szOf P T) 0 with
      | true, true, false => (i < l.length ∧ y.fit sz ∧ off = 0) ∧ K (set_ σ' b (.row T0 sz (l.set i y)))
      | true, false, false => ∃ x, (l[i]? = some x ∧ y.fit (szOf P T) ∧ off + szOf P T ≤ sz) ∧ K (set_ σ' b (.row T0 sz (l.set i (.agg (spl off y.cs x.cs)))))
      | _, _, _ => False
    | .lend T0 sz' l => match Nat.beq sz sz', Nat.beq (szOf P T) sz, Nat.beq (szOf P T) 0 with
      | true, true, false => (i < l.length ∧ y.fit sz ∧ off = 0) ∧ K (set_ σ' b (.lend T0 sz (l.set i y)))
      | true, false, false => ∃ x, (l[i]? = some x ∧ y.fit (szOf P T) ∧ off + szOf P T ≤ sz) ∧ K (set_ σ' b (.lend T0 sz (l.set i (.agg (spl off y.cs x.cs)))))
      | _, _, _ => False
    | _ => False) σ val
  | _ => False

def fillA (place : Nat → Option (Nat × Nat)) : List AV → List (Nat × AV) → Option (List AV)
  | c, [] => some c
  | c, (i, x) :: r => match place i, avCells x with
    | some (off, size), some vs => match Nat.beq vs.length size, Nat.ble (off + vs.length) c.length with
      | true, true => fillA place (spl off vs c) r
      | _, _ => none
    | _, _ => none
def placesOf (P : Program) : List Field → Option (List (Nat × Nat))
  | [] => some []
  | f :: r => match P.info? f.type, placesOf P r with
    | some i, some q => some ((f.offset, i.size) :: q)
    | _, _ => none
def evParts (fr : Fr) : List (Nat × Operand) → List (Nat × AV)
  | [] => []
  | (i, x) :: r => (i, ev fr x) :: evParts fr r
def buildK (P : Program) (T : TypeId) (K : AV → Prop) (parts : List (Nat × AV)) : Prop := match P.underlying T with
  | some (.struct fs) => match zeroAV P T, placesOf P fs.toList with
    | some z, some pl => match fillA (nth pl) z parts with
      | some c => K (mkAgg c)
      | none => False
    | _, _ => False
  | _ => False

def fits (sz : Nat) : List PV → Prop
  | [] => True
  | y :: r => y.fit sz ∧ fits sz r
def seqP : Nat → List (Nat × AV) → Option (List AV)
  | _, [] => some []
  | n, (i, x) :: r => match Nat.beq i n with
    | true => match seqP (n + 1) r with
      | some l => some (x :: l)
      | none => none
    | false => none
def litK (P : Program) (T : TypeId) (len : Nat) (σ : Sto) (K : AV → Sto → Prop) (parts : List (Nat × AV)) : Prop := match elemOfT P T, seqP 0 parts with
  | some e, some l => match zeroAV P e, Nat.beq (szOf P e) 0, Nat.beq len l.length, Nat.ble (len * szOf P e) 16777216 with
    | some _, false, true, true => toPAs l (fun ys σ' => fits (szOf P e) ys ∧ K (.row σ'.length (szOf P e) 0 len) (σ' ++ [.row e (szOf P e) ys])) σ
    | _, _, _, _ => False
  | _, _ => False
/-- make([]T, n): so many zero values. -/
def zeroPV (P : Program) (e : TypeId) : Option PV := match isRowT P e, zeroAV P e with
  | some true, some c => (match pCells c with
    | some l => some (.agg l)
    | none => none)
  | some false, some [x] => (match pCells [x] with
    | some [y] => some y
    | _ => none)
  | _, _ => none
where pCells : List AV → Option (List PV)
  | [] => some []
  | .p (.raw v) :: l => match pCells l with
    | some r => some (.raw v :: r)
    | none => none
  | .tl [] :: l => match pCells l with
    | some r => some (.lst [] :: r)
    | none => none
  | _ => none
def makeK (P : Program) (T : TypeId) (σ : Sto) (K : AV → Sto → Prop) (l c : AV) : Prop := match l, c with
  | .p (.raw (.int _ n)), .p (.raw (.int _ m)) => match elemOfT P T with
    | some e => match zeroPV P e, Nat.beq (szOf P e) 0 with
      | some z, false => (z.cs.length = szOf P e ∧ 0 ≤ n ∧ n ≤ m ∧ m * P.bytesOf e ≤ 140737488355328 ∧ m ≤ 9223372036854775807) ∧ K (.row σ.length (szOf P e) 0 n.toNat) (σ ++ [.row e (szOf P e) (List.replicate n.toNat z)])
      | _, _ => False
    | none => False
  | _, _ => False

def inT (wr : Option (List Nat)) : AV → Bool
  | .ptr b _ => inW b wr
  | .el b _ _ _ => inW b wr
  | .row b _ _ _ => inW b wr
  | .mp b => inW b wr
  | _ => true

section
variable {P : Program} {cx : Cx} {F : Nat → Prop} {ι : Loc} {fr : Fr} {σ : Sto} {a : Act} {w w' : World}

theorem info_of_sz {T : TypeId} (h : Nat.beq (szOf P T) 0 = false) : ∃ i, P.info? T = some i := by
  have hne : szOf P T ≠ 0 := fun e => by rw [e] at h; cases h
  unfold szOf Program.cellsOf at hne
  cases hi : P.info? T with
  | none => simp [hi] at hne
  | some i => exact ⟨i, rfl⟩

/-- Cells in the place of others. -/
theorem CR.spl {o : Nat} {vs c : List AV} {us cs : List Value} (h1 : CR F ι w vs us) (h2 : CR F ι w c cs) (hl : o + vs.length ≤ c.length) : CR F ι w (Sy.spl o vs c) (Sy.spl o us cs) := by
  have e1 := h1.1
  have e2 := h2.1
  refine ⟨by rw [spl_len, spl_len, e2], fun v hv => ?_, fun j x v hx hv => ?_⟩
  · obtain ⟨j, hj⟩ := List.getElem?_of_mem hv
    rw [spl_get _ _ _ _ (by omega)] at hj
    split at hj
    · exact h1.2.1 v (List.mem_of_getElem? hj)
    · exact h2.2.1 v (List.mem_of_getElem? hj)
  · rw [spl_get _ _ _ _ hl] at hx
    rw [spl_get _ _ _ _ (by omega), e1] at hv
    split at hx
    · rename_i hc; rw [if_pos hc] at hv; exact h1.2.2 _ x v hx hv
    · rename_i hc; rw [if_neg hc] at hv; exact h2.2.2 _ x v hx hv

theorem CR.but {c : List AV} {cs : List Value} {r0 : Nat} (h : CR F ι w c cs) (hlt : ∀ r, F r → r < w.heap.size) (hn : ¬ F r0) (hb : But r0 w w') : CR F ι w' c cs :=
  ⟨h.1, h.2.1, fun j x v hx hv => (h.2.2 j x v hx hv).but hlt hn hb⟩

theorem set_fit {sz i : Nat} {l : List PV} {q : PV} (hl : ∀ (i : Nat) (x : PV), l[i]? = some x → PV.fit sz x) (hq : q.fit sz) (i' : Nat) (x : PV) (hx : (l.set i q)[i']? = some x) : PV.fit sz x := by
  by_cases e : i = i'
  · subst e
    have hlt : i < l.length := by simpa using (List.getElem?_eq_some_iff.mp hx).1
    rw [List.getElem?_set_self hlt] at hx
    cases hx
    exact hq
  · rw [List.getElem?_set_ne e] at hx; exact hl i' x hx

theorem storeK_ok {T : TypeId} {x y : AV} {u v : Value} {K : Sto → Prop} (h : St cx F ι fr σ a w) (hx : VR F ι w x u) (hy : VR F ι w y v) (hk : storeK P T σ K y x) :
    ∃ F' σ' w', K σ' ∧ (Instr.storeAt T u v).run P w = .ok () w' ∧ (∀ r, F r → F' r) ∧ St cx F' ι fr σ' a w' ∧ ∀ wr, inT wr x = true → Step wr F ι σ w F' ι σ' w' := by
  unfold storeK at hk
  split at hk
  · rename_i b off
    split at hk
    · rename_i T0 c hc
      split at hk
      · rename_i vs hvs
        split at hk
        · rename_i k1 k2 k3
          have e1 := Nat.eq_of_beq_eq_true k1
          have e2 := Nat.le_of_ble_eq_true k2
          have hi := info_of_sz k3
          have hcr := avCells_ok hy hvs
          cases hx with
          | ptr b off r hι =>
            have hb := h.sr.bk b
            rw [hc, hι] at hb
            obtain ⟨r', cs, e, hh, hl, h1, hp⟩ := hb
            cases e
            have hlen : v.cells.toList.length = vs.length := hcr.1
            have hrun := run_storeAt (P := P) (o := off) (v := v) (T := T) hh (by omega) (by rw [← e1, ← hlen]; simp) hi hcr.2.1
            have hbut : But r w (w.setCells r off v.cells.toList) := But.setCells hh (by omega)
            have hw : (at_ σ b).w = true := by rw [hc]; rfl
            refine ⟨F, _, _, hk, hrun, fun _ h => h, h.set hw hι hbut rfl (fun _ => rfl) ?_, fun wr hin => h.stepSet hw hι hbut hin⟩
            have hn : ¬ F r := h.sr.own b r 0 hw hι
            have hcs : CR F ι w c cs.toList := ⟨by simpa using hl, fun v hv => h1 v (by simpa using hv), fun j x v hx hv => hp j x v hx (by simpa using hv)⟩
            have hnew := (CR.spl hcr hcs e2).but h.inv.lt hn hbut
            refine ⟨r, _, rfl, setCells_heap _ _ _ _ hh (by omega), by simpa using hnew.1, fun v hv => hnew.2.1 v (by simpa using hv), fun j x v hx hv => hnew.2.2 j x v hx (by simpa using hv)⟩
        · exact hk.elim
      · exact hk.elim
    · exact hk.elim
  · rename_i b sz i off
    obtain ⟨F1, σ1, y1, hk1, hF1, h1, hy1, hl1, t1⟩ := toPA_ok h hy hk
    have hx1 : VR F1 ι w (.el b sz i off) u := hx.mono hF1 (fun _ _ => rfl) (fun _ _ h => h) (fun _ _ _ _ _ h => h)
    split at hk1
    · rename_i T0 sz' l hc
      -- what both ways have in common: y1's cells go to cell off of the element
      have key : ∀ (q : PV), Nat.beq sz sz' = true → Nat.beq (szOf P T) 0 = false → i < l.length → y1.fit (szOf P T) → off + szOf P T ≤ sz → q.fit sz → (∀ (j : Nat) z, q.cs[j]? = some z → (off ≤ j ∧ j < off + szOf P T → y1.cs[j - off]? = some z) ∧ (¬ (off ≤ j ∧ j < off + szOf P T) → ∃ x, l[i]? = some x ∧ x.cs[j]? = some z)) →
          ∃ w', (Instr.storeAt T u v).run P w = .ok () w' ∧ St cx F1 ι fr (set_ σ1 b (.row T0 sz (l.set i q))) a w' ∧ ∀ wr, inW b wr = true → Step wr F1 ι σ1 w F1 ι (set_ σ1 b (.row T0 sz (l.set i q))) w' := by
        intro q k1 k3 hil hfit hoff hq hcells
        have := Nat.eq_of_beq_eq_true k1
        subst this
        have hi := info_of_sz k3
        cases hx1 with
        | el b sz i off r β hι =>
          have hb := h1.sr.bk b
          rw [hc, hι] at hb
          obtain ⟨cs, hh, hlen, hfl, hp⟩ := hb
          have hle : (i + 1) * sz ≤ l.length * sz := Nat.mul_le_mul_right _ hil
          rw [Nat.add_mul, Nat.one_mul] at hle
          -- y1's cells in v
          have hyc : v.cells.toList.length = szOf P T ∧ (∀ t ∈ v.cells.toList, t.oneCell' = true) ∧ ∀ (j : Nat) z t, y1.cs[j]? = some z → v.cells.toList[j]? = some t → PR F1 w z t := by
            cases hy1 with
            | agg ys vs hvl ho hpp =>
              refine ⟨by rw [← hfit.1]; simpa [Value.cells, PV.cs] using hvl, fun t ht => ?_, fun j z t hz ht => hpp j z t hz (by simpa [Value.cells] using ht)⟩
              simp [Value.cells] at ht
              obtain ⟨j, hj⟩ := List.getElem?_of_mem ht
              obtain ⟨z, hz⟩ : ∃ z, ys[j]? = some z := ⟨_, List.getElem?_eq_getElem (by have := (List.getElem?_eq_some_iff.mp hj).1; omega)⟩
              exact (hpp j z t hz hj).oneCell (allOne_get ho hz)
            | raw v hv =>
              rw [cells_one hv]
              refine ⟨by rw [← hfit.1]; rfl, by simpa using hv, fun j z t hz ht => ?_⟩
              cases j with
              | zero => simp [PV.cs] at hz ht; subst hz; subst ht; exact .raw v hv
              | succ j => simp [PV.cs] at hz
            | nil A c =>
              refine ⟨by rw [← hfit.1]; rfl, by simp [Value.cells, Value.oneCell'], fun j z t hz ht => ?_⟩
              cases j with
              | zero => simp [PV.cs, Value.cells] at hz ht; subst hz; subst ht; exact .nil A c
              | succ j => simp [PV.cs] at hz
            | lst l r off c sz n vals a1 a2 a3 a4 a5 a6 =>
              refine ⟨by rw [← hfit.1]; rfl, by simp [Value.cells, Value.oneCell'], fun j z t hz ht => ?_⟩
              cases j with
              | zero => simp [PV.cs, Value.cells] at hz ht; subst hz; subst ht; exact .lst l r off c sz n vals a1 a2 a3 a4 a5 a6
              | succ j => simp [PV.cs] at hz
            | bn =>
              refine ⟨by rw [← hfit.1]; rfl, by simp [Value.cells, Value.oneCell'], fun j z t hz ht => ?_⟩
              cases j with
              | zero => simp [PV.cs, Value.cells] at hz ht; subst hz; subst ht; exact .bn
              | succ j => simp [PV.cs] at hz
            | bx x r o vals a1 a2 a3 a4 =>
              refine ⟨by rw [← hfit.1]; rfl, by simp [Value.cells, Value.oneCell'], fun j z t hz ht => ?_⟩
              cases j with
              | zero => simp [PV.cs, Value.cells] at hz ht; subst hz; subst ht; exact .bx x r o vals a1 a2 a3 a4
              | succ j => simp [PV.cs] at hz
          obtain ⟨hyl, hyo, hyp⟩ := hyc
          have hrun := run_storeAt (P := P) (o := β + (i * sz + off)) (v := v) (T := T) hh (by omega) (by simpa using hyl) hi hyo
          have hbut : But r w (w.setCells r (β + (i * sz + off)) v.cells.toList) := But.setCells hh (by omega)
          have hw : (at_ σ1 b).w = true := by rw [hc]; rfl
          refine ⟨_, hrun, h1.set hw hι hbut rfl (fun e => by rw [hc] at e; cases e) ?_, fun wr hin => h1.stepSet hw hι hbut hin⟩
          have hn : ¬ F1 r := h1.sr.own b r β hw hι
          have hF : ∀ k, F1 k → (w.setCells r (β + (i * sz + off)) v.cells.toList).heap[k]? = w.heap[k]? := fun k hk => hbut.block k (h1.inv.lt k hk) (fun e => hn (e ▸ hk))
          refine ⟨_, setCells_heap _ _ _ _ hh (by omega), by simp [spl_len]; exact hlen, fun i' x hx => ?_, fun i' x j z t hx hz ht => ?_⟩
          · exact set_fit hfl hq i' x hx
          · simp only [List.getElem?_toArray] at ht
            rw [spl_get _ _ _ _ (by rw [hyl]; simp only [Array.length_toList]; omega), hyl] at ht
            have hjs : j < sz := by
              have hxf : x.fit sz := set_fit hfl hq i' x hx
              have := (List.getElem?_eq_some_iff.mp hz).1
              have := hxf.1
              omega
            by_cases hii : i = i'
            · subst hii
              rw [List.getElem?_set_self hil] at hx
              cases hx
              obtain ⟨c1, c2⟩ := hcells j z hz
              by_cases hr : off ≤ j ∧ j < off + szOf P T
              · rw [if_pos ⟨by omega, by omega⟩] at ht
                have e3 : β + (i * sz + j) - (β + (i * sz + off)) = j - off := by omega
                rw [e3] at ht
                exact (hyp _ z t (c1 hr) ht).mono (fun _ h => h) hF
              · rw [if_neg (fun hh => hr ⟨by omega, by omega⟩)] at ht
                obtain ⟨x, hx1, hx2⟩ := c2 hr
                exact (hp i x j z t hx1 hx2 (by simpa using ht)).mono (fun _ h => h) hF
            · rw [List.getElem?_set_ne hii] at hx
              have hne : ¬ (β + (i * sz + off) ≤ β + (i' * sz + j) ∧ β + (i' * sz + j) < β + (i * sz + off) + szOf P T) := fun ⟨g1, g2⟩ => by
                rcases Nat.lt_or_gt_of_ne hii with g | g
                · have : (i + 1) * sz ≤ i' * sz := Nat.mul_le_mul_right _ g
                  rw [Nat.add_mul, Nat.one_mul] at this
                  omega
                · have : (i' + 1) * sz ≤ i * sz := Nat.mul_le_mul_right _ g
                  rw [Nat.add_mul, Nat.one_mul] at this
                  omega
              rw [if_neg hne] at ht
              exact (hp i' x j z t hx hz (by simpa using ht)).mono (fun _ h => h) hF
      split at hk1
      · rename_i k1 k2 k3
        obtain ⟨⟨hil, hfit, rfl⟩, hk2⟩ := hk1
        have e2 := Nat.eq_of_beq_eq_true k2
        obtain ⟨w', hr, hs, t2⟩ := key y1 k1 k3 hil (by rw [e2]; exact hfit) (by omega) hfit (fun j z hz => ⟨fun _ => by simpa using hz, fun hn => absurd ⟨Nat.zero_le _, by have := (List.getElem?_eq_some_iff.mp hz).1; have := hfit.1; omega⟩ hn⟩)
        exact ⟨F1, _, w', hk2, hr, hF1, hs, fun wr hin => (t1 wr).trans (t2 wr hin)⟩
      · rename_i k1 k2 k3
        obtain ⟨x, ⟨hx2, hfit, hoff⟩, hk2⟩ := hk1
        have hil := (List.getElem?_eq_some_iff.mp hx2).1
        have hxf : x.fit sz := by
          have hb := h1.sr.bk b
          rw [hc] at hb
          have e1 := Nat.eq_of_beq_eq_true k1
          subst e1
          cases hp : ι b with
          | none => rw [hp] at hb; have hb' : l = [] := hb; subst hb'; simp at hx2
          | some q => obtain ⟨r, β⟩ := q; rw [hp] at hb; obtain ⟨cs, _, _, hfl, _⟩ := hb; exact hfl i x hx2
        have hspl : ∀ (j : Nat) z, (spl off y1.cs x.cs)[j]? = some z → (off ≤ j ∧ j < off + szOf P T → y1.cs[j - off]? = some z) ∧ (¬ (off ≤ j ∧ j < off + szOf P T) → ∃ x, l[i]? = some x ∧ x.cs[j]? = some z) := fun j z hz => by
          rw [spl_get _ _ _ _ (by rw [hfit.1, hxf.1]; exact hoff), hfit.1] at hz
          constructor
          · intro hr; rwa [if_pos hr] at hz
          · intro hr; rw [if_neg hr] at hz; exact ⟨x, hx2, hz⟩
        have hone : allOne (spl off y1.cs x.cs) = true := by
          have : ∀ l : List PV, (∀ (j : Nat) z, l[j]? = some z → z.one = true) → allOne l = true := by
            intro l
            induction l with
            | nil => intro _; rfl
            | cons z l ih => intro hh; simp only [allOne, Bool.and_eq_true]; exact ⟨hh 0 z rfl, ih (fun j y hy => hh (j + 1) y (by simpa using hy))⟩
          refine this _ fun j z hz => ?_
          obtain ⟨c1, c2⟩ := hspl j z hz
          by_cases hr : off ≤ j ∧ j < off + szOf P T
          · exact allOne_get hfit.2 (c1 hr)
          · obtain ⟨x', hx', hz'⟩ := c2 hr
            rw [hx2] at hx'; cases hx'
            exact allOne_get hxf.2 hz'
        obtain ⟨w', hr, hs, t2⟩ := key (.agg (spl off y1.cs x.cs)) k1 k3 hil hfit hoff ⟨(by show (spl off y1.cs x.cs).length = sz; rw [spl_len]; exact hxf.1), hone⟩ hspl
        exact ⟨F1, _, w', hk2, hr, hF1, hs, fun wr hin => (t1 wr).trans (t2 wr hin)⟩
      · exact hk1.elim
    · rename_i T0 sz' l hc
      -- what both ways have in common: y1's cells go to cell off of the element
      have key : ∀ (q : PV), Nat.beq sz sz' = true → Nat.beq (szOf P T) 0 = false → i < l.length → y1.fit (szOf P T) → off + szOf P T ≤ sz → q.fit sz → (∀ (j : Nat) z, q.cs[j]? = some z → (off ≤ j ∧ j < off + szOf P T → y1.cs[j - off]? = some z) ∧ (¬ (off ≤ j ∧ j < off + szOf P T) → ∃ x, l[i]? = some x ∧ x.cs[j]? = some z)) →
          ∃ w', (Instr.storeAt T u v).run P w = .ok () w' ∧ St cx F1 ι fr (set_ σ1 b (.lend T0 sz (l.set i q))) a w' ∧ ∀ wr, inW b wr = true → Step wr F1 ι σ1 w F1 ι (set_ σ1 b (.lend T0 sz (l.set i q))) w' := by
        intro q k1 k3 hil hfit hoff hq hcells
        have := Nat.eq_of_beq_eq_true k1
        subst this
        have hi := info_of_sz k3
        cases hx1 with
        | el b sz i off r β hι =>
          have hb := h1.sr.bk b
          rw [hc, hι] at hb
          obtain ⟨cs, hh, hlen, hfl, hp⟩ := hb
          have hle : (i + 1) * sz ≤ l.length * sz := Nat.mul_le_mul_right _ hil
          rw [Nat.add_mul, Nat.one_mul] at hle
          -- y1's cells in v
          have hyc : v.cells.toList.length = szOf P T ∧ (∀ t ∈ v.cells.toList, t.oneCell' = true) ∧ ∀ (j : Nat) z t, y1.cs[j]? = some z → v.cells.toList[j]? = some t → PR F1 w z t := by
            cases hy1 with
            | agg ys vs hvl ho hpp =>
              refine ⟨by rw [← hfit.1]; simpa [Value.cells, PV.cs] using hvl, fun t ht => ?_, fun j z t hz ht => hpp j z t hz (by simpa [Value.cells] using ht)⟩
              simp [Value.cells] at ht
              obtain ⟨j, hj⟩ := List.getElem?_of_mem ht
              obtain ⟨z, hz⟩ : ∃ z, ys[j]? = some z := ⟨_, List.getElem?_eq_getElem (by have := (List.getElem?_eq_some_iff.mp hj).1; omega)⟩
              exact (hpp j z t hz hj).oneCell (allOne_get ho hz)
            | raw v hv =>
              rw [cells_one hv]
              refine ⟨by rw [← hfit.1]; rfl, by simpa using hv, fun j z t hz ht => ?_⟩
              cases j with
              | zero => simp [PV.cs] at hz ht; subst hz; subst ht; exact .raw v hv
              | succ j => simp [PV.cs] at hz
            | nil A c =>
              refine ⟨by rw [← hfit.1]; rfl, by simp [Value.cells, Value.oneCell'], fun j z t hz ht => ?_⟩
              cases j with
              | zero => simp [PV.cs, Value.cells] at hz ht; subst hz; subst ht; exact .nil A c
              | succ j => simp [PV.cs] at hz
            | lst l r off c sz n vals a1 a2 a3 a4 a5 a6 =>
              refine ⟨by rw [← hfit.1]; rfl, by simp [Value.cells, Value.oneCell'], fun j z t hz ht => ?_⟩
              cases j with
              | zero => simp [PV.cs, Value.cells] at hz ht; subst hz; subst ht; exact .lst l r off c sz n vals a1 a2 a3 a4 a5 a6
              | succ j => simp [PV.cs] at hz
            | bn =>
              refine ⟨by rw [← hfit.1]; rfl, by simp [Value.cells, Value.oneCell'], fun j z t hz ht => ?_⟩
              cases j with
              | zero => simp [PV.cs, Value.cells] at hz ht; subst hz; subst ht; exact .bn
              | succ j => simp [PV.cs] at hz
            | bx x r o vals a1 a2 a3 a4 =>
              refine ⟨by rw [← hfit.1]; rfl, by simp [Value.cells, Value.oneCell'], fun j z t hz ht => ?_⟩
              cases j with
              | zero => simp [PV.cs, Value.cells] at hz ht; subst hz; subst ht; exact .bx x r o vals a1 a2 a3 a4
              | succ j => simp [PV.cs] at hz
          obtain ⟨hyl, hyo, hyp⟩ := hyc
          have hrun := run_storeAt (P := P) (o := β + (i * sz + off)) (v := v) (T := T) hh (by omega) (by simpa using hyl) hi hyo
          have hbut : But r w (w.setCells r (β + (i * sz + off)) v.cells.toList) := But.setCells hh (by omega)
          have hw : (at_ σ1 b).w = true := by rw [hc]; rfl
          refine ⟨_, hrun, h1.set hw hι hbut rfl (fun _ => rfl) ?_, fun wr hin => h1.stepSet hw hι hbut hin⟩
          have hn : ¬ F1 r := h1.sr.own b r β hw hι
          have hF : ∀ k, F1 k → (w.setCells r (β + (i * sz + off)) v.cells.toList).heap[k]? = w.heap[k]? := fun k hk => hbut.block k (h1.inv.lt k hk) (fun e => hn (e ▸ hk))
          refine ⟨_, setCells_heap _ _ _ _ hh (by omega), by simp [spl_len]; exact hlen, fun i' x hx => ?_, fun i' x j z t hx hz ht => ?_⟩
          · exact set_fit hfl hq i' x hx
          · simp only [List.getElem?_toArray] at ht
            rw [spl_get _ _ _ _ (by rw [hyl]; simp only [Array.length_toList]; omega), hyl] at ht
            have hjs : j < sz := by
              have hxf : x.fit sz := set_fit hfl hq i' x hx
              have := (List.getElem?_eq_some_iff.mp hz).1
              have := hxf.1
              omega
            by_cases hii : i = i'
            · subst hii
              rw [List.getElem?_set_self hil] at hx
              cases hx
              obtain ⟨c1, c2⟩ := hcells j z hz
              by_cases hr : off ≤ j ∧ j < off + szOf P T
              · rw [if_pos ⟨by omega, by omega⟩] at ht
                have e3 : β + (i * sz + j) - (β + (i * sz + off)) = j - off := by omega
                rw [e3] at ht
                exact (hyp _ z t (c1 hr) ht).mono (fun _ h => h) hF
              · rw [if_neg (fun hh => hr ⟨by omega, by omega⟩)] at ht
                obtain ⟨x, hx1, hx2⟩ := c2 hr
                exact (hp i x j z t hx1 hx2 (by simpa using ht)).mono (fun _ h => h) hF
            · rw [List.getElem?_set_ne hii] at hx
              have hne : ¬ (β + (i * sz + off) ≤ β + (i' * sz + j) ∧ β + (i' * sz + j) < β + (i * sz + off) + szOf P T) := fun ⟨g1, g2⟩ => by
                rcases Nat.lt_or_gt_of_ne hii with g | g
                · have : (i + 1) * sz ≤ i' * sz := Nat.mul_le_mul_right _ g
                  rw [Nat.add_mul, Nat.one_mul] at this
                  omega
                · have : (i' + 1) * sz ≤ i * sz := Nat.mul_le_mul_right _ g
                  rw [Nat.add_mul, Nat.one_mul] at this
                  omega
              rw [if_neg hne] at ht
              exact (hp i' x j z t hx hz (by simpa using ht)).mono (fun _ h => h) hF
      split at hk1
      · rename_i k1 k2 k3
        obtain ⟨⟨hil, hfit, rfl⟩, hk2⟩ := hk1
        have e2 := Nat.eq_of_beq_eq_true k2
        obtain ⟨w', hr, hs, t2⟩ := key y1 k1 k3 hil (by rw [e2]; exact hfit) (by omega) hfit (fun j z hz => ⟨fun _ => by simpa using hz, fun hn => absurd ⟨Nat.zero_le _, by have := (List.getElem?_eq_some_iff.mp hz).1; have := hfit.1; omega⟩ hn⟩)
        exact ⟨F1, _, w', hk2, hr, hF1, hs, fun wr hin => (t1 wr).trans (t2 wr hin)⟩
      · rename_i k1 k2 k3
        obtain ⟨x, ⟨hx2, hfit, hoff⟩, hk2⟩ := hk1
        have hil := (List.getElem?_eq_some_iff.mp hx2).1
        have hxf : x.fit sz := by
          have hb := h1.sr.bk b
          rw [hc] at hb
          have e1 := Nat.eq_of_beq_eq_true k1
          subst e1
          cases hp : ι b with
          | none => rw [hp] at hb; have hb' : l = [] := hb; subst hb'; simp at hx2
          | some q => obtain ⟨r, β⟩ := q; rw [hp] at hb; obtain ⟨cs, _, _, hfl, _⟩ := hb; exact hfl i x hx2
        have hspl : ∀ (j : Nat) z, (spl off y1.cs x.cs)[j]? = some z → (off ≤ j ∧ j < off + szOf P T → y1.cs[j - off]? = some z) ∧ (¬ (off ≤ j ∧ j < off + szOf P T) → ∃ x, l[i]? = some x ∧ x.cs[j]? = some z) := fun j z hz => by
          rw [spl_get _ _ _ _ (by rw [hfit.1, hxf.1]; exact hoff), hfit.1] at hz
          constructor
          · intro hr; rwa [if_pos hr] at hz
          · intro hr; rw [if_neg hr] at hz; exact ⟨x, hx2, hz⟩
        have hone : allOne (spl off y1.cs x.cs) = true := by
          have : ∀ l : List PV, (∀ (j : Nat) z, l[j]? = some z → z.one = true) → allOne l = true := by
            intro l
            induction l with
            | nil => intro _; rfl
            | cons z l ih => intro hh; simp only [allOne, Bool.and_eq_true]; exact ⟨hh 0 z rfl, ih (fun j y hy => hh (j + 1) y (by simpa using hy))⟩
          refine this _ fun j z hz => ?_
          obtain ⟨c1, c2⟩ := hspl j z hz
          by_cases hr : off ≤ j ∧ j < off + szOf P T
          · exact allOne_get hfit.2 (c1 hr)
          · obtain ⟨x', hx', hz'⟩ := c2 hr
            rw [hx2] at hx'; cases hx'
            exact allOne_get hxf.2 hz'
        obtain ⟨w', hr, hs, t2⟩ := key (.agg (spl off y1.cs x.cs)) k1 k3 hil hfit hoff ⟨(by show (spl off y1.cs x.cs).length = sz; rw [spl_len]; exact hxf.1), hone⟩ hspl
        exact ⟨F1, _, w', hk2, hr, hF1, hs, fun wr hin => (t1 wr).trans (t2 wr hin)⟩
      · exact hk1.elim
    · exact hk1.elim
  · exact hk.elim

theorem foldl_spl (off : Nat) (l : List Value) (cs : Array Value) (h : off + l.length ≤ cs.size) :
    ((l.zipIdx).foldl (fun cs (x : Value × Nat) => cs.setIfInBounds (off + x.2) x.1) cs).toList = Sy.spl off l cs.toList := by
  obtain ⟨h1, h2⟩ := Great.foldl_set off l 0 cs
  apply List.ext_getElem?
  intro k
  rw [Array.getElem?_toList, h2 k, spl_get _ _ _ _ (by simpa using h)]
  by_cases hk : off ≤ k ∧ k < off + l.length
  · rw [if_pos hk, if_pos ⟨by omega, by omega, by omega⟩, Nat.add_zero]
  · rw [if_neg hk, if_neg (fun hh => hk ⟨by omega, by omega⟩), Array.getElem?_toList]

theorem fillA_ok {place : Nat → Option (Nat × Nat)} : ∀ {ps : List (Nat × AV)} {vs : List (Nat × Value)} {c c' : List AV} {cs : Array Value}, CR F ι w c cs.toList → vs.length = ps.length →
    (∀ (j i : Nat) x i' v, ps[j]? = some (i, x) → vs[j]? = some (i', v) → i' = i ∧ VR F ι w x v) → fillA place c ps = some c' → ∃ cs', Instr.fill place cs vs = some cs' ∧ CR F ι w c' cs'.toList
  | [], [], c, c', cs, hc, _, _, h => by simp [fillA] at h; subst h; exact ⟨cs, rfl, hc⟩
  | [], _ :: _, _, _, _, _, hl, _, _ => by simp at hl
  | _ :: _, [], _, _, _, _, hl, _, _ => by simp at hl
  | (i, x) :: ps, (i', v) :: vs, c, c', cs, hc, hl, hp, h => by
    obtain ⟨e, hv⟩ := hp 0 i x i' v rfl rfl
    subst e
    simp only [fillA] at h
    cases hpl : place i' with
    | none => rw [hpl] at h; cases h
    | some q =>
      obtain ⟨off, size⟩ := q
      rw [hpl] at h
      cases hx : avCells x with
      | none => rw [hx] at h; cases h
      | some us =>
        rw [hx] at h
        simp only at h
        split at h
        · rename_i k1 k2
          have e1 := Nat.eq_of_beq_eq_true k1
          have e2 := Nat.le_of_ble_eq_true k2
          have hcr := avCells_ok hv hx
          have el : v.cells.toList.length = us.length := hcr.1
          have ec : cs.toList.length = c.length := hc.1
          have hs1 : v.cells.size = size := by rw [← e1, ← el]; simp
          have hs2 : ¬ (off + v.cells.size > cs.size) := by simp at el ec; omega
          have hsp := foldl_spl off v.cells.toList cs (by simp at el ec ⊢; omega)
          obtain ⟨cs', h1, h2⟩ := fillA_ok (cs := (v.cells.toList.zipIdx.foldl (fun cs (x : Value × Nat) => cs.setIfInBounds (off + x.2) x.1) cs)) (by rw [hsp]; exact CR.spl hcr hc e2) (by simpa using hl)
            (fun j i x i' v h1 h2 => hp (j + 1) i x i' v (by simpa using h1) (by simpa using h2)) h
          refine ⟨cs', ?_, h2⟩
          rw [Instr.fill, hpl]
          simp only [hs1, ne_eq, not_true_eq_false, decide_false, Bool.false_or, decide_eq_true_eq]
          rw [if_neg (by simpa [hs1] using hs2), ← h1]
          congr 1
          rw [← Array.foldl_toList]
          congr 1
          simp
        · cases h

theorem placesOf_mapM : ∀ {fs : List Field} {pl : List (Nat × Nat)}, placesOf P fs = some pl → fs.mapM (fun f => (P.info? f.type).map fun i => (f.offset, i.size)) = some pl
  | [], pl, h => by simp [placesOf] at h; subst h; rfl
  | f :: fs, pl, h => by
    simp only [placesOf] at h
    cases hi : P.info? f.type with
    | none => simp [hi] at h
    | some i =>
      cases hq : placesOf P fs with
      | none => simp [hi, hq] at h
      | some q =>
        simp [hi, hq] at h
        subst h
        simp [List.mapM_cons, hi, placesOf_mapM hq]

theorem evParts_get : ∀ (ps : List (Nat × Operand)) (j : Nat), (evParts fr ps)[j]? = (ps[j]?).map fun q => (q.1, ev fr q.2)
  | [], j => by simp [evParts]
  | (i, x) :: r, 0 => by simp [evParts]
  | (i, x) :: r, j + 1 => by simp [evParts, evParts_get r j]
theorem evParts_len : ∀ (ps : List (Nat × Operand)), (evParts fr ps).length = ps.length
  | [] => rfl
  | (i, x) :: r => by simp [evParts, evParts_len r]

theorem buildK_ok {T : TypeId} {K : AV → Prop} {ps : List (Nat × Operand)} (hev : ∀ y, VR F ι w (ev fr y) (a.eval y)) (hk : buildK P T K (evParts fr ps)) :
    ∃ x v, K x ∧ VR F ι w x v ∧ ∀ w', (Instr.build T (ps.toArray.map fun (i, x) => (i, a.eval x))).run P w' = .ok v w' := by
  unfold buildK at hk
  split at hk
  · rename_i fs hu
    split at hk
    · rename_i z pl hz hpl
      split at hk
      · rename_i c hc
        obtain ⟨i, hi⟩ := info_of_under hu
        have hz' := hz
        unfold zeroAV at hz'
        rw [hi] at hz'
        cases hzz : i.zero with
        | none => simp [hzz] at hz'
        | some zv =>
          simp only [hzz] at hz'
          have hcr := cellVals_ok (F := F) (ι := ι) (w := w) hz'
          obtain ⟨cs', h1, h2⟩ := fillA_ok (cs := zv.cells) (vs := (ps.map fun q => (q.1, a.eval q.2))) hcr (by simp [evParts_len]) (fun j i x i' v hp hv => by
            rw [evParts_get] at hp
            rw [List.getElem?_map] at hv
            cases hq : ps[j]? with
            | none => rw [hq] at hp; cases hp
            | some q => rw [hq] at hp hv; cases hp; cases hv; exact ⟨rfl, hev _⟩) hc
          have hb : P.built T (ps.map fun q => (q.1, a.eval q.2)) = some cs' := by
            unfold Program.built
            rw [hi, hu]
            simp only [hzz, placesOf_mapM hpl]
            rw [← h1]
            congr 1
            funext j
            rw [nth_eq]
            simp
          refine ⟨mkAgg c, .agg cs', hk, ?_, fun w' => ?_⟩
          · have := mkAgg_ok (F := F) (ι := ι) (w := w) (vs := cs'.toList) h2.1 h2.2.1 h2.2.2
            simpa using this
          · have := run_build (P := P) w' T (ps.toArray.map fun (i, x) => (i, a.eval x)) cs' (by simpa using hb)
            exact this
      · exact hk.elim
    · exact hk.elim
  · exact hk.elim

theorem PR_cells {y : PV} {v : Value} (h : PR F w y v) : v.cells.toList.length = y.cs.length ∧ (∀ t ∈ v.cells.toList, t.oneCell' = true) ∧ ∀ (j : Nat) z t, y.cs[j]? = some z → v.cells.toList[j]? = some t → PR F w z t := by
  have one : ∀ {y : PV} {v : Value}, PR F w y v → v.oneCell' = true → y.cs = [y] → v.cells.toList.length = y.cs.length ∧ (∀ t ∈ v.cells.toList, t.oneCell' = true) ∧ ∀ (j : Nat) z t, y.cs[j]? = some z → v.cells.toList[j]? = some t → PR F w z t := by
    intro y v h h1 hc
    rw [cells_one h1, hc]
    refine ⟨rfl, by simpa using h1, fun j z t hz ht => ?_⟩
    cases j with
    | zero => simp at hz ht; subst hz; subst ht; exact h
    | succ j => simp at hz
  cases h with
  | raw v hv => exact one (.raw v hv) hv rfl
  | nil A c => exact one (.nil A c) rfl rfl
  | lst l r off c sz n vals a1 a2 a3 a4 a5 a6 => exact one (.lst l r off c sz n vals a1 a2 a3 a4 a5 a6) rfl rfl
  | bn => exact one .bn rfl rfl
  | bx x r o vals a1 a2 a3 a4 => exact one (.bx x r o vals a1 a2 a3 a4) rfl rfl
  | agg ys vs hvl ho hpp =>
    refine ⟨by simpa [Value.cells, PV.cs] using hvl, fun t ht => ?_, fun j z t hz ht => hpp j z t hz (by simpa [Value.cells] using ht)⟩
    simp [Value.cells] at ht
    obtain ⟨j, hj⟩ := List.getElem?_of_mem ht
    obtain ⟨z, hz⟩ : ∃ z, ys[j]? = some z := ⟨_, List.getElem?_eq_getElem (by have := (List.getElem?_eq_some_iff.mp hj).1; omega)⟩
    exact (hpp j z t hz hj).oneCell (allOne_get ho hz)

theorem fits_get {sz : Nat} : ∀ {l : List PV}, fits sz l → ∀ (i : Nat) (x : PV), l[i]? = some x → x.fit sz
  | [], _, i, x, hx => by simp at hx
  | y :: r, h, 0, x, hx => by simp at hx; subst hx; exact h.1
  | y :: r, h, i + 1, x, hx => fits_get h.2 i x (by simpa using hx)

/-- Values side by side make a row. -/
theorem rowAt_new {sz : Nat} {ys : List PV} {vs : List Value} {T : TypeId} (hs : 0 < sz) (hl : ys.length = vs.length) (hf : ∀ (i : Nat) (x : PV), ys[i]? = some x → PV.fit sz x) (hp : ∀ (j : Nat) y v, ys[j]? = some y → vs[j]? = some v → PR F w y v)
    (hlt : ∀ r, F r → r < w.heap.size) (hb : Below w.heap.size w w') {r : Nat} (hr : w'.heap[r]? = some (.cells (vs.flatMap fun v => v.cells.toList).toArray T (0, 0))) : RowAt F w' T sz ys (some (r, 0)) := by
  have hsz : ∀ v ∈ vs, v.cells.size = sz := fun v hv => by
    obtain ⟨j, hj⟩ := List.getElem?_of_mem hv
    obtain ⟨y, hy⟩ : ∃ y, ys[j]? = some y := ⟨_, List.getElem?_eq_getElem (by have := (List.getElem?_eq_some_iff.mp hj).1; omega)⟩
    have := (PR_cells (hp j y v hy hj)).1
    rw [(hf j y hy).1] at this
    simpa using this
  have hlen : (vs.flatMap fun v => v.cells.toList).length = vs.length * sz := by
    clear hr hp hf hl
    induction vs with
    | nil => simp
    | cons v vs ih =>
      have h1 : v.cells.toList.length = sz := by simpa using hsz v (by simp)
      rw [List.flatMap_cons, List.length_append, h1, ih (fun u hu => hsz u (by simp [hu])), List.length_cons, Nat.add_mul]
      omega
  refine ⟨_, hr, by simp [hl, ← hlen], hf, fun i x j y v hx hy hv => ?_⟩
  have hj : j < sz := by have := (List.getElem?_eq_some_iff.mp hy).1; have := (hf i x hx).1; omega
  simp only [Nat.zero_add, List.getElem?_toArray] at hv
  rw [Great.flat_get hs vs hsz] at hv
  have e1 : (i * sz + j) / sz = i := by rw [Nat.add_comm, Nat.add_mul_div_right _ _ hs, Nat.div_eq_of_lt hj, Nat.zero_add]
  have e2 : (i * sz + j) % sz = j := by rw [Nat.add_comm, Nat.add_mul_mod_self_right, Nat.mod_eq_of_lt hj]
  rw [e1, e2] at hv
  cases hvi : vs[i]? with
  | none => rw [hvi] at hv; cases hv
  | some u =>
    rw [hvi] at hv
    exact ((PR_cells (hp i x u hx hvi)).2.2 j y v hy (by simpa using hv)).mono (fun _ h => h) (fun r hr => hb.block r (hlt r hr))

theorem seqP_ok : ∀ {ps : List (Nat × AV)} {k : Nat} {l : List AV}, seqP k ps = some l → l.length = ps.length ∧ ∀ (j i : Nat) x, ps[j]? = some (i, x) → i = k + j ∧ l[j]? = some x
  | [], k, l, h => by simp [seqP] at h; subst h; exact ⟨rfl, fun j i x hj => by simp at hj⟩
  | (i, x) :: r, k, l, h => by
    simp only [seqP] at h
    cases hb : Nat.beq i k with
    | false => rw [hb] at h; cases h
    | true =>
      rw [hb] at h
      cases hq : seqP (k + 1) r with
      | none => simp [hq] at h
      | some q =>
        simp [hq] at h
        subst h
        have e := Nat.eq_of_beq_eq_true hb
        obtain ⟨h1, h2⟩ := seqP_ok hq
        refine ⟨by simp [h1], fun j i' x' hj => ?_⟩
        cases j with
        | zero => simp at hj; exact ⟨by omega, by simp [hj.2]⟩
        | succ j =>
          obtain ⟨e1, e2⟩ := h2 j i' x' (by simpa using hj)
          exact ⟨by omega, by simpa using e2⟩

/-- A new row. -/
theorem St.newRow (h : St cx F ι fr σ a w) {T : TypeId} {sz : Nat} {ys : List PV} (hb : Below w.heap.size w w') (hs : w.heap.size < w'.heap.size) (hr : RowAt F w' T sz ys (some (w.heap.size, 0))) :
    St cx F (put_ ι σ.length (some (w.heap.size, 0))) fr (σ ++ [.row T sz ys]) a w' := h.new hb rfl hs hr

theorem litK_ok {T : TypeId} {len : Nat} {K : AV → Sto → Prop} {ps : List (Nat × Operand)} (h : St cx F ι fr σ a w) (hk : litK P T len σ K (evParts fr ps)) :
    ∃ F' ι' σ' w' x v, K x σ' ∧ (Instr.buildSlice T len (ps.toArray.map fun (i, x) => (i, a.eval x))).run P w = .ok v w' ∧ St cx F' ι' fr σ' a w' ∧ VR F' ι' w' x v ∧ ∀ wr, Step wr F ι σ w F' ι' σ' w' := by
  unfold litK at hk
  split at hk
  · rename_i e l he hl
    split at hk
    · rename_i z hz k0 k1 k2
      have hu := elemOfT_some he
      have elen := Nat.eq_of_beq_eq_true k1
      have hle := Nat.le_of_ble_eq_true k2
      obtain ⟨ie, hie⟩ := info_of_sz k0
      have hsz : ie.size = szOf P e := by simp [szOf, Program.cellsOf, hie]
      have hpos : 0 < szOf P e := Nat.pos_of_ne_zero (fun e1 => by rw [e1] at k0; cases k0)
      obtain ⟨hll, hlg⟩ := seqP_ok hl
      have hvals : ∀ (j : Nat) x v, l[j]? = some x → ((ps.map fun q => a.eval q.2) : List Value)[j]? = some v → VR F ι w x v := fun j x v hx hv => by
        rw [List.getElem?_map] at hv
        cases hq : ps[j]? with
        | none => rw [hq] at hv; cases hv
        | some q =>
          rw [hq] at hv
          cases hv
          have := (hlg j q.1 (ev fr q.2) (by rw [evParts_get, hq]; rfl)).2
          rw [this] at hx; cases hx
          exact ev_ok h _
      have hlp : ps.length = l.length := by rw [hll, evParts_len]
      obtain ⟨F1, σ1, ys, ⟨hfit, hk1⟩, hF1, h1, hyl, hys, hs1, t1⟩ := toPAs_ok (vs := ps.map fun q => a.eval q.2) h (by simpa using hlp) hvals hk
      have hf := fits_get hfit
      have hyl' : ys.length = len := by rw [hyl]; simp; omega
      generalize hvs : (ps.map fun q => a.eval q.2) = vs at *
      have hvsz : ∀ v ∈ vs, v.cells.size = szOf P e := fun v hv => by
        obtain ⟨j, hj⟩ := List.getElem?_of_mem hv
        obtain ⟨y, hy⟩ : ∃ y, ys[j]? = some y := ⟨_, List.getElem?_eq_getElem (by have := (List.getElem?_eq_some_iff.mp hj).1; omega)⟩
        have := (PR_cells (hys j y v hy hj)).1
        rw [(hf j y hy).1] at this
        simpa using this
      have hparts : (ps.toArray.map fun (i, x) => (i, a.eval x)).toList = (vs.zipIdx 0).map fun x => (x.2, x.1) := by
        rw [← hvs]
        apply List.ext_getElem?
        intro j
        simp only [Array.toList_map, List.getElem?_map, List.getElem?_zipIdx]
        cases hq : ps[j]? with
        | none => simp
        | some q =>
          have := (hlg j q.1 (ev fr q.2) (by rw [evParts_get, hq]; rfl)).1
          simp at this
          simp [← this]
      have hvl : vs.length = len := by rw [← hvs]; simp; omega
      have hrun : (Instr.buildSlice T len (ps.toArray.map fun (i, x) => (i, a.eval x))).run P w = .ok (.slice (some ⟨w.heap.size, 0, none⟩) len len) (w.alloc (.cells (vs.flatMap fun v => v.cells.toList).toArray e)) := by
        by_cases h0 : len = 0
        · subst h0
          have hv0 : vs = [] := List.length_eq_zero_iff.mp hvl
          have hp0 : (ps.toArray.map fun (i, x) => (i, a.eval x)) = #[] := by
            apply Array.toList_inj.mp
            rw [hparts, hv0]; rfl
          rw [hp0, hv0]
          simp [Instr.buildSlice, run_underlying hu, sizeOf, typeInfo, hie, Instr.fill, Go.newRow, Array.range_zero']
        · cases hzz : ie.zero with
          | none => simp [zeroAV, hie, hzz] at hz
          | some zv =>
            refine run_buildSlice w T e len _ _ ie zv hu hie hzz (by rw [hsz]; omega) (by rw [hsz]; exact Nat.mul_ne_zero h0 (by omega)) ?_
            rw [hparts, hsz]
            exact Great.fill_whole hpos vs _ hvsz (by simp [hvl])
      refine ⟨F1, _, _, _, _, _, hk1, hrun, h1.newRow (below_alloc _) (by rw [alloc_size]; omega) (rowAt_new hpos (by omega) hf hys h1.inv.lt (below_alloc _) (alloc_new _)), ?_, fun wr => (t1 wr).trans (h1.stepNew (below_alloc _))⟩
      have hsize : (vs.flatMap fun v => v.cells.toList).length = len * szOf P e := by
        have : ∀ vs : List Value, (∀ v ∈ vs, v.cells.size = szOf P e) → (vs.flatMap fun v => v.cells.toList).length = vs.length * szOf P e := by
          intro vs
          induction vs with
          | nil => intro _; simp
          | cons v vs ih =>
            intro hh
            have h1 : v.cells.toList.length = szOf P e := by simpa using hh v (by simp)
            rw [List.flatMap_cons, List.length_append, h1, ih (fun u hu => hh u (by simp [hu])), List.length_cons, Nat.add_mul]
            omega
        rw [this vs hvsz, hvl]
      have := VR.row (F := F1) (w := w.alloc (.cells (vs.flatMap fun v => v.cells.toList).toArray e)) σ1.length (szOf P e) 0 len w.heap.size 0 len (len * szOf P e) (put_self ι σ1.length _) (by rw [rowLen_of (alloc_new _)]; simp [hsize]) (Nat.le_refl _) (by simp)
      simpa using this
    · exact hk.elim
  · exact hk.elim

theorem pCells_ok : ∀ {c : List AV} {vs : List Value} {l : List PV}, CR F ι w c vs → zeroPV.pCells c = some l → l.length = vs.length ∧ allOne l = true ∧ ∀ (j : Nat) y t, l[j]? = some y → vs[j]? = some t → PR F w y t
  | [], vs, l, h, hl => by
    simp [zeroPV.pCells] at hl; subst hl
    exact ⟨h.1.symm, rfl, fun j y t hy => by simp at hy⟩
  | x :: c, [], l, h, hl => by have := h.1; simp at this
  | x :: c, v :: vs, l, h, hl => by
    have hx : VR F ι w x v := h.2.2 0 x v rfl rfl
    have ht : CR F ι w c vs := ⟨by have := h.1; simpa using this, fun u hu => h.2.1 u (by simp [hu]), fun j x v hj hv => h.2.2 (j + 1) x v (by simpa using hj) (by simpa using hv)⟩
    have key : ∀ (y : PV), y.one = true → PR F w y v → (match zeroPV.pCells c with | some r => some (y :: r) | none => none) = some l → l.length = (v :: vs).length ∧ allOne l = true ∧ ∀ (j : Nat) y t, l[j]? = some y → (v :: vs)[j]? = some t → PR F w y t := by
      intro y h1 hy hl
      cases hq : zeroPV.pCells c with
      | none => simp [hq] at hl
      | some r =>
        simp [hq] at hl
        subst hl
        obtain ⟨e1, e2, e3⟩ := pCells_ok ht hq
        refine ⟨by simp [e1], by simp [allOne, h1, e2], fun j z t hz ht' => ?_⟩
        cases j with
        | zero => simp at hz ht'; subst hz; subst ht'; exact hy
        | succ j => exact e3 j z t (by simpa using hz) (by simpa using ht')
    unfold zeroPV.pCells at hl
    split at hl
    · rename_i e; cases e
    · rename_i v0 c0 e
      cases e
      cases hx with
      | p _ _ hv => exact key _ rfl hv hl
    · rename_i c0 e
      cases e
      cases hx with
      | tl _ A n hn hv => exact key _ rfl hv hl
    · cases hl

theorem zeroPV_ok {e : TypeId} {z : PV} {i : TypeInfo} (hi : P.info? e = some i) (h : zeroPV P e = some z) : ∃ zv, i.zero = some zv ∧ zv.cells.toList.length = z.cs.length ∧ allOne z.cs = true ∧ ∀ (j : Nat) y t, z.cs[j]? = some y → zv.cells.toList[j]? = some t → PR F w y t := by
  unfold zeroPV at h
  have hcr : ∀ c, zeroAV P e = some c → ∃ zv, i.zero = some zv ∧ CR F (fun _ => none) w c zv.cells.toList := fun c hc => by
    unfold zeroAV at hc
    rw [hi] at hc
    simp only at hc
    cases hz : i.zero with
    | none => simp [hz] at hc
    | some zv => simp only [hz] at hc; exact ⟨zv, rfl, cellVals_ok hc⟩
  split at h
  · rename_i c hr hc
    obtain ⟨zv, h1, h2⟩ := hcr c hc
    split at h
    · rename_i l hl
      cases h
      obtain ⟨e1, e2, e3⟩ := pCells_ok h2 hl
      exact ⟨zv, h1, e1.symm, e2, e3⟩
    · cases h
  · rename_i x hr hc
    obtain ⟨zv, h1, h2⟩ := hcr [x] hc
    split at h
    · rename_i y hl
      cases h
      obtain ⟨e1, e2, e3⟩ := pCells_ok h2 hl
      have h1' : z.one = true := by simpa [allOne] using e2
      have hcs : z.cs = [z] := by cases z <;> first | rfl | (simp [PV.one] at h1')
      rw [hcs]
      exact ⟨zv, h1, e1.symm, e2, e3⟩
    · cases h
  · cases h

theorem makeK_ok {T : TypeId} {K : AV → Sto → Prop} {l c : AV} {u v : Value} (h : St cx F ι fr σ a w) (hl : VR F ι w l u) (hc : VR F ι w c v) (hk : makeK P T σ K l c) :
    ∃ ι' σ' w' x t, K x σ' ∧ (Instr.makeSlice T u v).run P w = .ok t w' ∧ St cx F ι' fr σ' a w' ∧ VR F ι' w' x t ∧ ∀ wr, Step wr F ι σ w F ι' σ' w' := by
  unfold makeK at hk
  split at hk
  · rename_i k n k' m
    cases VR.inv_raw hl
    cases VR.inv_raw hc
    split at hk
    · rename_i e he
      split at hk
      · rename_i z hz k0
        obtain ⟨⟨hzs, h0, h1, h2, h3⟩, hk⟩ := hk
        have hu := elemOfT_some he
        obtain ⟨ie, hie⟩ := info_of_sz k0
        have hsz : ie.size = szOf P e := by simp [szOf, Program.cellsOf, hie]
        have hby : ie.bytes = P.bytesOf e := by simp [Program.bytesOf, hie]
        have hpos : 0 < szOf P e := Nat.pos_of_ne_zero (fun e1 => by rw [e1] at k0; cases k0)
        obtain ⟨zv, hzv, z1, z2, z3⟩ := zeroPV_ok (F := F) (w := w) hie hz
        have hrun := run_make (P := P) w T e ie zv hu hie hzv k k' n m h0 h1 (by rw [hby, Int.mul_comm]; omega) h3
        have hzsz : zv.cells.size = szOf P e := by rw [← hzs, ← z1]; simp
        have hnm : n.toNat * szOf P e ≤ m.toNat * szOf P e := Nat.mul_le_mul_right _ (by omega)
        have hrow : RowAt F (w.alloc (.cells (madeCells zv.cells (m.toNat * ie.size)) e)) e (szOf P e) (List.replicate n.toNat z) (some (w.heap.size, 0)) := by
          refine ⟨_, alloc_new _, by rw [size_madeCells, hsz]; simp; exact hnm, fun i x hx => ?_, fun i x j y t hx hy ht => ?_⟩
          · rw [List.getElem?_replicate] at hx
            split at hx
            · cases hx; exact ⟨hzs, z2⟩
            · cases hx
          · rw [List.getElem?_replicate] at hx
            split at hx
            · cases hx
              have hj : j < szOf P e := by have := (List.getElem?_eq_some_iff.mp hy).1; omega
              rename_i hi'
              have hlt : i * szOf P e + j < m.toNat * szOf P e := by
                have : (i + 1) * szOf P e ≤ m.toNat * szOf P e := Nat.mul_le_mul_right _ (by omega)
                rw [Nat.add_mul, Nat.one_mul] at this
                omega
              have e2 : (i * szOf P e + j) % zv.cells.size = j := by rw [hzsz, Nat.add_comm, Nat.add_mul_mod_self_right, Nat.mod_eq_of_lt hj]
              have hlt2 : j < zv.cells.size := by omega
              simp only [madeCells, Nat.zero_add, Array.getElem?_map, hsz] at ht
              rw [Array.getElem?_range, if_pos hlt] at ht
              simp only [Option.map_some, Option.some.injEq, e2, getElem!_pos, hlt2] at ht
              have ht2 : zv.cells.toList[j]? = some t := by rw [Array.getElem?_toList, Array.getElem?_eq_getElem hlt2, ht]
              exact (z3 j y t hy ht2).mono (fun _ h => h) (fun r hr => (below_alloc _).block r (h.inv.lt r hr))
            · cases hx
        refine ⟨_, _, _, _, _, hk, hrun, h.newRow (below_alloc _) (by rw [alloc_size]; omega) hrow, ?_, fun wr => h.stepNew (below_alloc _)⟩
        have := VR.row (F := F) (w := w.alloc (.cells (madeCells zv.cells (m.toNat * ie.size)) e)) σ.length (szOf P e) 0 n.toNat w.heap.size 0 m.toNat (m.toNat * ie.size) (put_self ι σ.length _)
          (by rw [rowLen_of (alloc_new _), size_madeCells]) (by omega) (by rw [hsz]; simp)
        simpa using this
      · exact hk.elim
    · exact hk.elim
  · exact hk.elim
end
end Go.Proofs.Sy
