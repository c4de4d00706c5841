/- What the arguments of a law read as, told as pure values. -/
import Derived.Test.YtnnalcglfgapbaaDoorSyL
import Derived.ChangeSlices
import Derived.SizedLaws
import Derived.ChangeOld
set_option linter.unusedVariables false
set_option linter.unusedSimpArgs false
namespace Go.Proofs.Sy
open Go Go.RowKit
/-- These cells hold these values, each in one cell. -/
def CsL (w : World) (ys : List PV) (cs : List Value) : Prop := cs.length = ys.length ∧ allOne ys = true ∧ ∀ (j : Nat) y v, ys[j]? = some y → cs[j]? = some v → PR (fun r => r < w.heap.size) w y v
def OpensN (P : Program) (n : Nat) (t : TypeId) {α : Type} (e : α → PV) (B : α → Prop) : Prop :=
  ∀ {H : Type} (enc : TypeId × Value → H) (w : World) (cs : List Value) (x : DataW H × List MemPlace),
    DataW.trod enc P w 0 (fun _ => true) true n t cs = some x → (∀ m ∈ x.1.weights P t, m ≤ reachBytes) → ∃ a, CsL w (e a).cs cs ∧ B a
def OpensF (P : Program) (n : Nat) (fs : List Field) (off tot : Nat) {α : Type} (e : α → List PV) (B : α → Prop) : Prop :=
  ∀ {H : Type} (enc : TypeId × Value → H) (w : World) (cs : List Value) (xs : List (DataW H × List MemPlace)),
    (∀ (i : Nat) (f : Field), fs[i]? = some f → DataW.trod enc P w 0 (fun _ => true) true n f.type ((cs.drop f.offset).take (P.cellsOf f.type)) = xs[i]?) →
    xs.length = fs.length → cs.length = tot → (∀ (i : Nat) (f : Field) (y : DataW H × List MemPlace), fs[i]? = some f → xs[i]? = some y → ∀ m ∈ y.1.weights P f.type, m ≤ reachBytes) → ∃ a, CsL w (e a) (cs.drop off) ∧ B a
section
variable {P : Program} {n : Nat} {t : TypeId}
theorem opens_zero {α : Type} (e : α → PV) (B : α → Prop) : OpensN P 0 t e B := by
  intro H enc w cs x h
  simp [DataW.trod] at h
theorem CsL.raw {w : World} {v : Value} (h : v.oneCell' = true) : CsL w [.raw v] [v] := ⟨rfl, rfl, fun j y u hy hu => by
  cases j with
  | zero => simp at hy hu; subst hy; subst hu; exact .raw _ h
  | succ j => simp at hy⟩
theorem opens_int {k : IntKind} (ht : P.underlying t = some (.int k)) : OpensN P n t (fun a => .raw (.int k a)) (fun a => (Lit.int k a).wf = true) := by
  intro H enc w cs x h _
  obtain ⟨a, rfl, _, h3⟩ := DataW.trod_int ht h
  exact ⟨a, CsL.raw rfl, h3⟩
theorem opens_bool (ht : P.underlying t = some .bool) : OpensN P n t (fun a => .raw (.bool a)) (fun _ => True) := by
  intro H enc w cs x h _
  obtain ⟨a, rfl, _⟩ := DataW.trod_bool ht h
  exact ⟨a, CsL.raw rfl, trivial⟩
theorem opens_string (ht : P.underlying t = some .string) : OpensN P n t (fun a => .raw (.string a)) (fun a => a.size ≤ 140737488351232) := by
  intro H enc w cs x h hw
  obtain ⟨a, rfl, h2, _⟩ := DataW.trod_string ht h
  subst h2
  have hm := hw a.data.toList.length (by simp [DataW.weights])
  rw [Array.length_toList] at hm
  exact ⟨a, CsL.raw rfl, hm⟩
theorem add_add (a : Addr) (x y : Nat) : (a.add x).add y = a.add (x + y) := by
  unfold Addr.add
  by_cases hx : x = 0
  · subst hx; simp
  · by_cases hy : y = 0
    · subst hy; simp
    · simp [hx, hy, Nat.add_assoc]

theorem exists_list {α : Type} {p : Nat → α → Prop} : ∀ (n : Nat), (∀ i, i < n → ∃ a, p i a) → ∃ l : List α, l.length = n ∧ ∀ i a, l[i]? = some a → p i a
  | 0, _ => ⟨[], rfl, fun i a h => by simp at h⟩
  | n + 1, h => by
    obtain ⟨l, hl, hp⟩ := exists_list n (fun i hi => h i (by omega))
    obtain ⟨a, ha⟩ := h n (by omega)
    refine ⟨l ++ [a], by simp [hl], fun i b hb => ?_⟩
    rcases Nat.lt_or_ge i n with hi | hi
    · rw [List.getElem?_append_left (by omega)] at hb
      exact hp i b hb
    · rw [List.getElem?_append_right (by omega)] at hb
      have h0 : i - l.length = 0 := by
        rcases Nat.eq_zero_or_pos (i - l.length) with h0 | h0
        · exact h0
        · rw [List.getElem?_eq_none (by simp; omega)] at hb
          cases hb
      rw [h0] at hb
      have : i = n := by omega
      subst this
      simp at hb
      subst hb
      exact ha

theorem opens_i64 (ht : P.underlying t = some (.int .i64)) : OpensN P n t I (fun a => -9223372036854775808 ≤ a ∧ a ≤ 9223372036854775807) := by
  intro H enc w cs x h hw
  obtain ⟨a, h1, h2⟩ := opens_int ht enc w cs x h hw
  refine ⟨a, h1, ?_⟩
  simp only [Lit.wf, Bool.and_eq_true, decide_eq_true_eq] at h2
  exact ⟨h2.1, h2.2⟩
theorem opens_u8 (ht : P.underlying t = some (.int .u8)) : OpensN P n t (fun a => .raw (.int .u8 a)) (fun a => 0 ≤ a ∧ a ≤ 255) := by
  intro H enc w cs x h hw
  obtain ⟨a, h1, h2⟩ := opens_int ht enc w cs x h hw
  refine ⟨a, h1, ?_⟩
  simp only [Lit.wf, Bool.and_eq_true, decide_eq_true_eq] at h2
  exact ⟨h2.1, h2.2⟩
theorem cell_lt {w : World} {a : Addr} {v : Value} (h : w.cell? a = some v) : a.block < w.heap.size ∧ a.spot = none := by
  unfold World.cell? at h
  cases hb : w.heap[a.block]? with
  | none => rw [hb] at h; simp at h
  | some o =>
    refine ⟨(Array.getElem?_eq_some_iff.1 hb).1, ?_⟩
    rw [hb] at h
    cases o with
    | cells c T s =>
      simp only at h
      cases hs : a.spot with
      | none => rfl
      | some k => rw [hs] at h; simp at h
    | _ => simp at h
theorem add_off {a : Addr} (h : a.spot = none) (k : Nat) : a.add k = ⟨a.block, a.off + k, none⟩ := by
  unfold Addr.add
  split
  · rename_i h0; subst h0; cases a; simp at h; subst h; rfl
  · rfl
theorem opens_slice {α : Type} {e : α → PV} {B : α → Prop} {E bs sz : Nat} (ht : P.underlying t = some (.slice E)) (hs : P.cellsOf E = sz) (hz : 0 < sz) (he : ∀ a, (e a).cs.length = sz) (hb : P.bytesOf E = bs)
    (h : OpensN P n E e B) : OpensN P (n + 1) t (fun l : List α => .lst (l.map e)) (fun l => l.length * bs ≤ 140737488351232 ∧ ∀ a ∈ l, B a) := by
  intro H enc w cs x hx hw
  rcases DataW.trod_slice ht hx with ⟨rfl, rfl⟩ | ⟨a, len, cap, elems, rest, m, hm, rfl, rfl, _, hl, hc, hlen, hel, _, _⟩
  · refine ⟨[], ⟨rfl, rfl, fun j y v hy hv => ?_⟩, by simp, fun a ha => by simp at ha⟩
    cases j with
    | zero => simp [PV.cs] at hy hv; subst hy; subst hv; exact .nil _ _
    | succ j => simp [PV.cs] at hy
  · obtain rfl : n = m := by omega
    have hw' : ∀ m, m ∈ (elems.map (·.1) : List (DataW H)).flatMap (fun y => y.weights P E) ∨ m = ((elems.map (·.1)).length + (rest.map (·.1)).length) * P.bytesOf E → m ≤ reachBytes := by
      intro m hm
      refine hw m ?_
      simp only [DataW.weights, ht]
      rcases hm with hm | hm
      · refine List.mem_cons_of_mem _ (List.mem_append_left _ ?_)
        clear hel hw hlen hx
        generalize (elems.map (·.1) : List (DataW H)) = ys at hm
        induction ys with
        | nil => simp at hm
        | cons y ys ih =>
          simp only [DataW.weightsAll, List.mem_append]
          rw [List.flatMap_cons, List.mem_append] at hm
          rcases hm with hm | hm
          · exact .inl hm
          · exact .inr (ih hm)
      · exact List.mem_cons.2 (.inl hm)
    have key : ∀ i, i < len → ∃ b : α, (∃ c, c.length = sz ∧ CsL w (e b).cs c ∧ ∀ j u, c[j]? = some u → w.cell? (a.add (i * sz + j)) = some u) ∧ B b := by
      intro i hi
      have h1 := hel i hi
      rw [List.getElem?_eq_getElem (by omega)] at h1
      obtain ⟨c, h2, h3⟩ := Option.bind_eq_some_iff.1 h1
      obtain ⟨_, h4, h5⟩ := World.cells?_some h2
      obtain ⟨b, hk, hB⟩ := h enc w c _ h3 (fun m hm => hw' m (.inl (by
        rw [List.mem_flatMap]
        exact ⟨_, List.mem_map.2 ⟨_, List.getElem_mem _, rfl⟩, hm⟩)))
      refine ⟨b, ⟨c, by rw [h4, hs], hk, fun j u hu => ?_⟩, hB⟩
      have hj : j < P.cellsOf E := by
        rw [← h4]
        exact (List.getElem?_eq_some_iff.1 hu).1
      have h6 := h5 j hj
      rw [add_add, hs] at h6
      rw [h6, hu]
    obtain ⟨l, h1, h2⟩ := exists_list len key
    subst h1
    have hlen : l.length * bs ≤ 140737488351232 := by
      have h3 := hw' _ (.inr rfl)
      rw [List.length_map, List.length_map, hlen, hb] at h3
      exact Nat.le_trans (Nat.mul_le_mul_right _ (Nat.le_add_right _ _)) h3
    refine ⟨l, ⟨rfl, rfl, fun j y v hy hv => ?_⟩, hlen, fun b hb => ?_⟩
    · cases j with
      | succ j => simp [PV.cs] at hy
      | zero =>
        simp [PV.cs] at hy hv
        subst hy; subst hv
        cases l with
        | nil => exact .nil _ _
        | cons b0 l0 =>
          obtain ⟨⟨c0, hc0, hk0, hu0⟩, _⟩ := h2 0 b0 rfl
          obtain ⟨hlt, hsp⟩ := cell_lt (hu0 0 _ (List.getElem?_eq_getElem (by omega)))
          have hlt' : a.block < w.heap.size := by
            rw [show a.add (0 * sz + 0) = a by simp [Addr.add]] at hlt; exact hlt
          rw [show a.add (0 * sz + 0) = a by simp [Addr.add]] at hsp
          obtain ⟨r, o, sp⟩ := a
          simp only at hsp hlt'
          subst hsp
          have hv : ∀ (i : Nat) (x : PV) (j : Nat) (y : PV), ((b0 :: l0).map e)[i]? = some x → x.cs[j]? = some y → ∃ u, w.cell? ⟨r, o + (i * sz + j), none⟩ = some u ∧ PR (fun r => r < w.heap.size) w y u := by
            intro i x j y hi hj
            rw [List.getElem?_map] at hi
            obtain ⟨b, hb1, rfl⟩ := Option.map_eq_some_iff.1 hi
            obtain ⟨⟨c, hc1, hk1, hu1⟩, _⟩ := h2 i b hb1
            have hjl : j < c.length := by
              have := (List.getElem?_eq_some_iff.1 hj).1
              rw [he] at this; omega
            have h7 := hu1 j _ (List.getElem?_eq_getElem hjl)
            rw [add_off rfl] at h7
            exact ⟨_, h7, hk1.2.2 j y _ hj (List.getElem?_eq_getElem hjl)⟩
          refine .lst _ r o cap sz _ (fun k => (w.cell? ⟨r, o + k, none⟩).getD default) hlt' (by simp) hl (fun i x hi => ?_) (fun i x j y hi hj => ?_) (fun i x j y hi hj => ?_)
          · rw [List.getElem?_map] at hi
            obtain ⟨b, hb1, rfl⟩ := Option.map_eq_some_iff.1 hi
            obtain ⟨⟨c, hc1, hk1, hu1⟩, _⟩ := h2 i b hb1
            exact ⟨he b, hk1.2.1⟩
          · obtain ⟨u, hu, _⟩ := hv i x j y hi hj
            rw [hu]; rfl
          · obtain ⟨u, hu, hp⟩ := hv i x j y hi hj
            rw [hu]; exact hp
    · obtain ⟨j, hj, hj2⟩ := List.getElem_of_mem hb
      obtain ⟨_, hB⟩ := h2 j b (by rw [← hj2]; exact List.getElem?_eq_getElem hj)
      exact hB
theorem opens_slice_lt {α : Type} {e : α → PV} {B : α → Prop} {E bs sz : Nat} (ht : P.underlying t = some (.slice E)) (hs : P.cellsOf E = sz) (hz : 0 < sz) (he : ∀ a, (e a).cs.length = sz) (hb : P.bytesOf E = bs)
    (h : ∀ m, m < n → OpensN P m E e B) : OpensN P n t (fun l : List α => .lst (l.map e)) (fun l => l.length * bs ≤ 140737488351232 ∧ ∀ a ∈ l, B a) := by
  cases n with
  | zero => exact opens_zero _ _
  | succ n => exact opens_slice ht hs hz he hb (h n (Nat.lt_succ_self n))
theorem CsL.append {w : World} {ys zs : List PV} {cs ds : List Value} (h : CsL w ys cs) (h' : CsL w zs ds) : CsL w (ys ++ zs) (cs ++ ds) := by
  refine ⟨by rw [List.length_append, List.length_append, h.1, h'.1], ?_, fun j y v hy hv => ?_⟩
  · have : ∀ (l r : List PV), allOne l = true → allOne r = true → allOne (l ++ r) = true := fun l r hl hr => by
      induction l with
      | nil => exact hr
      | cons x l ih => simp only [allOne, List.cons_append, Bool.and_eq_true] at hl ⊢; exact ⟨hl.1, ih hl.2⟩
    exact this _ _ h.2.1 h'.2.1
  · rcases Nat.lt_or_ge j ys.length with hj | hj
    · rw [List.getElem?_append_left hj] at hy
      rw [List.getElem?_append_left (by rw [h.1]; exact hj)] at hv
      exact h.2.2 j y v hy hv
    · rw [List.getElem?_append_right hj] at hy
      rw [List.getElem?_append_right (by rw [h.1]; exact hj), h.1] at hv
      exact h'.2.2 _ y v hy hv
theorem opensF_nil {off : Nat} : OpensF P n [] off off (fun _ : Unit => []) (fun _ => True) := by
  intro H enc w cs xs hx hl hc hw
  exact ⟨(), ⟨by rw [List.length_drop]; simp; omega, rfl, fun j y v hy hv => by simp at hy⟩, trivial⟩
theorem opensF_cons {α β : Type} {e : α → PV} {B : α → Prop} {e' : β → List PV} {B' : β → Prop} {f : Field} {fs : List Field} {off sz tot : Nat} (ho : f.offset = off) (hs : P.cellsOf f.type = sz)
    (h : OpensN P n f.type e B) (h' : OpensF P n fs (off + sz) tot e' B') : OpensF P n (f :: fs) off tot (fun p : α × β => (e p.1).cs ++ e' p.2) (fun p => B p.1 ∧ B' p.2) := by
  intro H enc w cs xs hx hl hc hw
  obtain ⟨x, xs, rfl⟩ : ∃ x ys, xs = x :: ys := by
    match xs, hl with
    | x :: ys, _ => exact ⟨x, ys, rfl⟩
  have h0 := hx 0 f rfl
  rw [ho, hs] at h0
  obtain ⟨a, ha, hB⟩ := h enc w _ x h0 (hw 0 f x rfl rfl)
  obtain ⟨b, hb, hB'⟩ := h' enc w cs xs (fun i g hg => hx (i + 1) g hg) (by simpa using hl) hc (fun i g y hg hy => hw (i + 1) g y hg hy)
  refine ⟨(a, b), ?_, hB, hB'⟩
  rw [← List.take_append_drop sz (cs.drop off), List.drop_drop]
  exact CsL.append ha hb
theorem opens_struct {α : Type} {e : α → List PV} {B : α → Prop} {fs : Array Field} {tot : Nat} (ht : P.underlying t = some (.struct fs)) (hs : P.cellsOf t = tot) (h : ∀ m, m < n → OpensF P m fs.toList 0 tot e B) : OpensN P n t (fun a => .agg (e a)) B := by
  intro H enc w cs x hx hw
  obtain ⟨xs, m, hm, rfl, hc, hl, hi⟩ := DataW.trod_struct ht hx
  have hw' : ∀ m ∈ DataW.weightsEach P (fs.toList.map (·.type)) (xs.map (·.1)), m ≤ reachBytes := by
    intro m hm
    refine hw m ?_
    simp only [DataW.weights, ht]
    exact hm
  obtain ⟨a, ha, hB⟩ := h m (by omega) enc w cs xs (fun i f hf => hi i f (by simpa using hf)) (by simpa using hl) (by omega) (fun i f y hf hy m hm => hw' m (DataW.weights_mem_each (j := i) (t := f.type) (d := y.1) (by simp at hf; simp [hf]) (by simp [hy]) m hm))
  exact ⟨a, ha, hB⟩
/-- A Lean type by what it is made of. -/
theorem opens_map {α β : Type} {e : α → PV} {e' : β → PV} {B : α → Prop} {B' : β → Prop} (g : α → β) (he : ∀ a, e' (g a) = e a) (hB : ∀ a, B a → B' (g a)) (h : OpensN P n t e B) : OpensN P n t e' B' := by
  intro H enc w cs x hx hw
  obtain ⟨a, ha, hb⟩ := h enc w cs x hx hw
  exact ⟨g a, by rw [he]; exact ha, hB a hb⟩
/-- An argument: its reading laid open. -/
theorem open_arg {α : Type} {e : α → PV} {B : α → Prop} {H : Type} {enc : TypeId × Value → H} {w : World} {v : Value} {x : DataW H} {ps : List MemPlace} {ts : List TypeId} {ds : List (DataW H)} {j : Nat}
    (hsz : (DataW.weightsEach P ts ds).all (· ≤ reachBytes) = true) (ht : ts[j]? = some t) (hd : ds[j]? = some x)
    (h : ∀ n, OpensN P n t e B) (hx : DataW.Trod enc P w 0 (fun _ => true) true t v x ps) : ∃ a, CsL w (e a).cs v.cells.toList ∧ B a := by
  obtain ⟨n, hn⟩ := hx
  refine h n enc w _ _ hn (fun m hm => ?_)
  have := List.all_eq_true.1 hsz m (DataW.weights_mem_each ht hd m hm)
  simpa using this
/-- A struct's value is its cells. -/
theorem pr_agg {r : Reach} {b : Nat} {w : World} {v : Value} {fs : Array Field} {l : List PV} (ht : P.underlying t = some (.struct fs)) (hv : Value.okWide P w r b t v) (hc : CsL w l v.cells.toList) : PR (fun r => r < w.heap.size) w (.agg l) v := by
  simp only [Value.okWide, ht] at hv
  obtain ⟨cs', rfl, _⟩ := hv
  have h : CsL w l cs'.toList := hc
  have := PR.agg (F := fun r => r < w.heap.size) (w := w) l cs'.toList h.1 h.2.1 h.2.2
  simpa using this
theorem pr_one {w : World} {v : Value} {x : PV} (hc : CsL w [x] [v]) : PR (fun r => r < w.heap.size) w x v := hc.2.2 0 x v rfl rfl
theorem sr_nil {w : World} {F : Nat → Prop} (ht : TabOK F w) : SR F (fun _ => none) w [] := by
  refine ⟨?_, ?_, ?_, ?_, ht⟩ <;> intros <;> simp_all [at_, Bk.w, BR]
theorem tab_nil {w : World} {F : Nat → Prop} (h : tabs = []) : TabOK F w := fun p hp => by rw [h] at hp; cases hp
/-- A law's call: of pure values, it returns one value. -/
theorem law_calls {f : Nat} {xs : List PV} {v : Value} {vs : List Value} {w : World} (ht : TabOK (fun r => r < w.heap.size) w) (h : FnP P f xs [.raw v]) (hl : xs.length = vs.length) (hv : ∀ (j : Nat) x u, xs[j]? = some x → vs[j]? = some u → PR (fun r => r < w.heap.size) w x u) :
    Calls P f vs.toArray w fun e w' => e = .returned v ∧ Below w.heap.size w w' := by
  refine (h.2 (fun r => r < w.heap.size) (fun _ => none) w vs (VRs.toAVs (ι' := fun _ => none) hl hv) (sr_nil ht) (fun r hr => hr)).mono ?_
  rintro e w' ⟨F', ι', rs, τ', us, rfl, ⟨rfl, rfl⟩, hr, _, hi, _⟩
  refine ⟨?_, hi.os, hi.tape, hi.output, hi.size, fun k hk => hi.keep k hk ?_⟩
  · obtain ⟨h1, h2⟩ := hr
    match us, h1 with
    | [u], _ =>
      have := h2 0 _ u rfl rfl
      cases this with
      | p _ _ hp => cases hp with
        | raw _ _ => rfl
  · rintro ⟨b, β, _, hb⟩
    simp [cxOf] at hb
end
end Go.Proofs.Sy
