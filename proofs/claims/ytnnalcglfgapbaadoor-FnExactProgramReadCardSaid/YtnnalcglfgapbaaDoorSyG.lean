/- append. -/
import Derived.Test.YtnnalcglfgapbaaDoorSyF
import Derived.Lib.AppendStr
import Derived.Lib.UnsafeStr
import Derived.ArgAppend
set_option linter.unusedVariables false
set_option linter.unusedSimpArgs false
namespace Go.Proofs.Sy
open Go Go.RowKit

def appX (P : Program) (e : TypeId) (fr : Fr) (σ : Sto) (K : AV → Fr → Sto → Prop) (x : AV) (ys : List PV) : Prop := match x with
  | .tl l => ((l = [] ∨ ys ≠ []) ∧ fits (szOf P e) l ∧ fits (szOf P e) ys ∧ (l.length + ys.length) * P.bytesOf e ≤ 140737488355328 ∧ l.length + ys.length ≤ 9223372036854775807) ∧
      K (.row σ.length (szOf P e) 0 (l.length + ys.length)) fr (σ ++ [.row e (szOf P e) (l ++ ys)])
  | .row b sz o n => match at_ σ b with
    | .row T0 sz' l => match Nat.beq sz (szOf P e), Nat.beq sz' (szOf P e), Nat.beq T0 e with
      | true, true, true => ∃ q, (o + n ≤ l.length ∧ (l.drop o).take n = q ∧ fits (szOf P e) ys ∧ (n + ys.length) * P.bytesOf e ≤ 140737488355328 ∧ n + ys.length ≤ 9223372036854775807) ∧
          K (.row b (szOf P e) 0 (n + ys.length)) (killF b fr) (killS b (set_ σ b (.row e (szOf P e) (q ++ ys))))
      | _, _, _ => False
    | _ => False
  | _ => False
def appK (P : Program) (T : TypeId) (fr : Fr) (σ : Sto) (K : AV → Fr → Sto → Prop) (x y : AV) : Prop := match elemOfT P T with
  | some e => match zeroAV P e, Nat.beq (szOf P e) 0 with
    | some z, false => match Nat.beq z.length (szOf P e) with
      | true => asLK σ [] (appX P e fr σ K x) y
      | false => False
    | _, _ => False
  | none => False

/-- append(x, s...), s a string. -/
def appS (P : Program) (T T' : TypeId) (fr : Fr) (σ : Sto) (K : AV → Fr → Sto → Prop) (x y : AV) : Prop := match elemOfT P T, P.underlying T' with
  | some e, some .string => match zeroAV P e, Nat.beq (szOf P e) 1 with
    | some z, true => match Nat.beq z.length (szOf P e), y with
      | true, .p (.raw (.string s)) => appX P e fr σ K x (bytesL s)
      | _, _ => False
    | _, _ => False
  | _, _ => False

section
variable {P : Program} {cx : Cx} {F : Nat → Prop} {ι : Loc} {fr : Fr} {σ : Sto} {a : Act} {w w' : World}

/-- The values of cells that lie somewhere. -/
theorem Lies.cells {l : List PV} {r o sz : Nat} (h : Lies F ι σ [] w l r o sz) (hs : 0 < sz) : ∃ vs : List Value, vs.length = l.length * sz ∧ (∀ (k : Nat) v, vs[k]? = some v → w.cell? ((⟨r, o, none⟩ : Addr).add k) = some v) ∧ (∀ v ∈ vs, v.oneCell' = true) ∧
    ∀ (i : Nat) x (j : Nat) y v, l[i]? = some x → x.cs[j]? = some y → vs[i * sz + j]? = some v → PR F w y v := by
  have hex : ∀ k, k < l.length * sz → ∃ i x j y v, l[i]? = some x ∧ x.cs[j]? = some y ∧ k = i * sz + j ∧ j < sz ∧ PR F w y v ∧ w.cell? ⟨r, o + k, none⟩ = some v ∧ v.oneCell' = true := fun k hk => by
    have h1 : k / sz < l.length := (Nat.div_lt_iff_lt_mul hs).mpr hk
    have h2 : k % sz < sz := Nat.mod_lt _ hs
    obtain ⟨x, hx⟩ : ∃ x, l[k / sz]? = some x := ⟨_, List.getElem?_eq_getElem h1⟩
    have hf := h.fit _ x hx
    obtain ⟨y, hy⟩ : ∃ y, x.cs[k % sz]? = some y := ⟨_, List.getElem?_eq_getElem (by rw [hf.1]; exact h2)⟩
    obtain ⟨v, hv1, hv2⟩ := h.cell _ x _ y hx hy
    have e : k = k / sz * sz + k % sz := by rw [Nat.mul_comm]; exact (Nat.div_add_mod k sz).symm
    refine ⟨_, x, _, y, v, hx, hy, e, h2, hv1, ?_, hv1.oneCell (allOne_get hf.2 hy)⟩
    have := hv2 w Same.refl
    rwa [← e] at this
  refine ⟨(List.range (l.length * sz)).map fun k => (w.cell? ⟨r, o + k, none⟩).getD undef, by simp, fun k v hv => ?_, fun v hv => ?_, fun i x j y v hx hy hv => ?_⟩
  · rw [List.getElem?_map] at hv
    cases hk : (List.range (l.length * sz))[k]? with
    | none => rw [hk] at hv; cases hv
    | some k' =>
      rw [hk] at hv
      obtain ⟨hlt, e⟩ := List.getElem?_eq_some_iff.mp hk
      simp at hlt e
      subst e
      obtain ⟨i, x, j, y, u, _, _, _, _, _, hc, _⟩ := hex k hlt
      simp [hc] at hv
      rw [Addr.add_mid, hc, hv]
  · obtain ⟨k, hk, rfl⟩ := List.mem_map.mp hv
    obtain ⟨i, x, j, y, u, _, _, _, _, _, hc, h1⟩ := hex k (by simpa using hk)
    rw [hc]; exact h1
  · have hf := h.fit _ x hx
    have hj : j < sz := by have := (List.getElem?_eq_some_iff.mp hy).1; have := hf.1; omega
    have hi := (List.getElem?_eq_some_iff.mp hx).1
    have hlt : i * sz + j < l.length * sz := by
      have : (i + 1) * sz ≤ l.length * sz := Nat.mul_le_mul_right _ hi
      rw [Nat.add_mul, Nat.one_mul] at this
      omega
    obtain ⟨u, hu1, hu2⟩ := h.cell _ x _ y hx hy
    rw [List.getElem?_map, List.getElem?_range hlt] at hv
    have := hu2 w Same.refl
    simp [this] at hv
    rw [← hv]; exact hu1

theorem fit_app {sz : Nat} {q ys : List PV} (hfo : fits sz q) (hfn : fits sz ys) (i : Nat) (x : PV) (hx : (q ++ ys)[i]? = some x) : PV.fit sz x := by
  rw [List.getElem?_append] at hx
  split at hx
  · exact fits_get hfo _ x hx
  · exact fits_get hfn _ x hx
/-- Two rows' cells, one behind the other. -/
theorem cells_app {sz : Nat} {q ys : List PV} {olds news : List Value} (ho : olds.length = q.length * sz) (hfo : fits sz q) (hn : news.length = ys.length * sz) (hfn : fits sz ys)
    (h1 : ∀ (i : Nat) x (j : Nat) y v, q[i]? = some x → x.cs[j]? = some y → olds[i * sz + j]? = some v → PR F w y v) (h2 : ∀ (i : Nat) x (j : Nat) y v, ys[i]? = some x → x.cs[j]? = some y → news[i * sz + j]? = some v → PR F w y v) :
    (∀ (i : Nat) x, (q ++ ys)[i]? = some x → PV.fit sz x) ∧ ∀ (i : Nat) x (j : Nat) y v, (q ++ ys)[i]? = some x → x.cs[j]? = some y → (olds ++ news)[i * sz + j]? = some v → PR F w y v := by
  have hfit : ∀ (i : Nat) x, (q ++ ys)[i]? = some x → PV.fit sz x := fun i x hx => by
    rw [List.getElem?_append] at hx
    split at hx
    · exact fits_get hfo _ x hx
    · exact fits_get hfn _ x hx
  refine ⟨hfit, fun i x j y v hx hy hv => ?_⟩
  have hj : j < sz := by have := (List.getElem?_eq_some_iff.mp hy).1; have := (hfit i x hx).1; omega
  rw [List.getElem?_append] at hx
  split at hx
  · rename_i hi
    have hlt : i * sz + j < olds.length := by
      have : (i + 1) * sz ≤ q.length * sz := Nat.mul_le_mul_right _ hi
      rw [Nat.add_mul, Nat.one_mul] at this
      omega
    rw [List.getElem?_append_left hlt] at hv
    exact h1 i x j y v hx hy hv
  · rename_i hi
    have hge : q.length * sz ≤ i * sz := Nat.mul_le_mul_right _ (by omega)
    rw [List.getElem?_append_right (by omega)] at hv
    have e : i * sz + j - olds.length = (i - q.length) * sz + j := by rw [ho, Nat.sub_mul]; omega
    rw [e] at hv
    exact h2 (i - q.length) x j y v hx hy hv

theorem drew_below (o : Obj) : Below w.heap.size w (w.drew.alloc o) := ⟨rfl, rfl, rfl, (below_alloc (w := w.drew) o).size, fun k hk => (below_alloc (w := w.drew) o).block k hk⟩
theorem drew_new (o : Obj) : (w.drew.alloc o).heap[w.heap.size]? = some o := alloc_new (w := w.drew) o
theorem drew_size (o : Obj) : (w.drew.alloc o).heap.size = w.heap.size + 1 := alloc_size (w := w.drew) o

/-- What is appended, wherever it lies. -/
structure Src (P : Program) (F : Nat → Prop) (w : World) (e : TypeId) (i : TypeInfo) (z : Value) (ty : TypeId) (ts : Array TypeId) (yv : Value) (ys : List PV) : Prop where
  non : ys = [] → ∀ (A : Option Addr) (n cap : Nat), n ≤ cap → (Builtin.append_ ts ty #[.slice A n cap, yv]).run P w = .ok (.slice A n cap) w
  som : ys ≠ [] → fits i.size ys → ∃ news : List Value, news.length = ys.length * i.size ∧ (∀ v ∈ news, v.oneCell' = true) ∧
    (∀ (k : Nat) x (j : Nat) y v, ys[k]? = some x → x.cs[j]? = some y → news[k * i.size + j]? = some v → PR F w y v) ∧
    (0 < ys.length → (ys.length : Int) ≤ 9223372036854775807 → ys.length * i.bytes ≤ 281474976710656 → (Builtin.append_ ts ty #[.slice none 0 0, yv]).run P w =
      .ok (.slice (some ⟨w.heap.size, 0, none⟩) ys.length (grownCap w ys.length 0 e)) (w.drew.alloc (.cells (news.toArray ++ Builtin.zeroCells z.cells (grownCap w ys.length 0 e - ys.length)) e))) ∧
    (∀ (b : Addr) (sLen sCap : Nat) (olds : List Value), olds.length = sLen * i.size → (∀ j v, olds[j]? = some v → w.cell? (b.add j) = some v) → sCap < sLen + ys.length → ((sLen + ys.length : Nat) : Int) ≤ 9223372036854775807 →
      Builtin.nextslicecap (sLen + ys.length) sCap * i.bytes ≤ 281474976710656 → (Builtin.append_ ts ty #[.slice (some b) sLen sCap, yv]).run P w =
      .ok (.slice (some ⟨w.heap.size, 0, none⟩) (sLen + ys.length) (grownCap w (sLen + ys.length) sCap e))
        (w.drew.alloc (.cells (olds.toArray ++ news.toArray ++ Builtin.zeroCells z.cells (grownCap w (sLen + ys.length) sCap e - (sLen + ys.length))) e))) ∧
    ∀ (b off sLen sCap : Nat), sLen + ys.length ≤ sCap → (∀ j, j < news.length → (w.cell? ⟨b, off + sLen * i.size + j, none⟩).isSome = true) → (∀ j, j < news.length → w.frozen? ⟨b, off + sLen * i.size + j, none⟩ = false) →
      (Builtin.append_ ts ty #[.slice (some ⟨b, off, none⟩) sLen sCap, yv]).run P w = .ok (.slice (some ⟨b, off, none⟩) (sLen + ys.length) sCap) (w.setCells b (off + sLen * i.size) news)

/-- What append makes where there is no room. -/
theorem app_grow {e : TypeId} {i : TypeInfo} {z : Value} {q ys : List PV} {A : Option Addr} {cap : Nat} {ty : TypeId} {ts : Array TypeId} {yv : Value} (hsrc : Src P F w e i z ty ts yv ys) (hzs : z.cells.size = i.size) (hpos : 0 < i.size)
    (hlt : ∀ r, F r → r < w.heap.size) (hq : q ≠ [] → ∃ r o sz, A = some ⟨r, o, none⟩ ∧ Lies F ι σ [] w q r o sz) (hA : A = none → cap = 0) (hfq : fits i.size q) (hfy : fits i.size ys) (hy : ys ≠ [])
    (hg : cap < q.length + ys.length) (hb : (q.length + ys.length) * i.bytes ≤ 140737488355328) (h63 : q.length + ys.length ≤ 9223372036854775807) :
    ∃ c w', (Builtin.append_ ts ty #[.slice A q.length cap, yv]).run P w = .ok (.slice (some ⟨w.heap.size, 0, none⟩) (q.length + ys.length) c) w' ∧ q.length + ys.length ≤ c ∧ Below w.heap.size w w' ∧ w.heap.size < w'.heap.size ∧
      RowAt F w' e i.size (q ++ ys) (some (w.heap.size, 0)) ∧ rowLen w' w.heap.size = some (c * i.size) := by
  obtain ⟨news, n1, n3, n4, rnil, rgrow, _⟩ := hsrc.som hy hfy
  have hylen : 0 < ys.length := List.length_pos_iff.mpr hy
  have hold : ∃ olds : List Value, olds.length = q.length * i.size ∧ (∀ b, A = some b → ∀ j v, olds[j]? = some v → w.cell? (b.add j) = some v) ∧ ∀ (k : Nat) x (j : Nat) y v, q[k]? = some x → x.cs[j]? = some y → olds[k * i.size + j]? = some v → PR F w y v := by
    by_cases hq0 : q = []
    · subst hq0; exact ⟨[], by simp, fun b hb j v hv => by simp at hv, fun k x j y v hx => by simp at hx⟩
    · obtain ⟨r, o, sz, hAe, hl⟩ := hq hq0
      have hsz : sz = i.size := by
        cases q with
        | nil => exact absurd rfl hq0
        | cons x q => rw [← (hl.fit 0 x rfl).1]; exact (fits_get hfq 0 x rfl).1
      subst hsz
      obtain ⟨olds, o1, o2, o3, o4⟩ := hl.cells hpos
      exact ⟨olds, o1, fun b hb j v hv => by rw [hAe] at hb; cases hb; exact o2 j v hv, o4⟩
  obtain ⟨olds, o1, o2, o4⟩ := hold
  obtain ⟨c1, c2⟩ := cells_app o1 hfq n1 hfy o4 n4
  have hrun : ∃ c, (Builtin.append_ ts ty #[.slice A q.length cap, yv]).run P w = .ok (.slice (some ⟨w.heap.size, 0, none⟩) (q.length + ys.length) c)
      (w.drew.alloc (.cells (olds.toArray ++ news.toArray ++ Builtin.zeroCells z.cells (c - (q.length + ys.length))) e)) ∧ q.length + ys.length ≤ c := by
    cases A with
    | none =>
      have hc0 := hA rfl
      subst hc0
      have hq0 : q = [] := by
        cases q with
        | nil => rfl
        | cons x q => obtain ⟨r, o, sz, hAe, _⟩ := hq (by simp); cases hAe
      subst hq0
      have ho0 : olds = [] := List.length_eq_zero_iff.mp (by rw [o1]; simp)
      subst ho0
      refine ⟨grownCap w ys.length 0 e, ?_, ?_⟩
      · have := rnil hylen (by simp at h63; omega) (by simp at hb; omega)
        simpa using this
      · simpa using grownCap_ge w ys.length 0 e
    | some b =>
      refine ⟨_, rgrow b q.length cap olds o1 (o2 b rfl) hg (by omega) (growslice_fits hg hb), grownCap_ge w _ _ e⟩
  obtain ⟨c, hrun, hc⟩ := hrun
  have hall : (olds ++ news).length = (q.length + ys.length) * i.size := by rw [List.length_append, o1, n1, Nat.add_mul]
  have hCs : (olds.toArray ++ news.toArray ++ Builtin.zeroCells z.cells (c - (q.length + ys.length))).size = c * i.size := by
    simp only [Array.size_append, List.size_toArray, size_zeroCells, hzs]
    rw [o1, n1, ← Nat.add_mul, ← Nat.add_mul]
    congr 1
    omega
  refine ⟨c, _, hrun, hc, drew_below _, by rw [drew_size]; omega, ?_, by rw [rowLen_of (drew_new _), hCs]⟩
  refine ⟨_, drew_new _, by rw [hCs, Nat.zero_add, List.length_append]; exact Nat.mul_le_mul_right _ hc, c1, fun k x j y v hx hy' hv => ?_⟩
  have hj : j < i.size := by have := (List.getElem?_eq_some_iff.mp hy').1; have := (c1 k x hx).1; omega
  have hk := (List.getElem?_eq_some_iff.mp hx).1
  have hlt' : k * i.size + j < (olds ++ news).length := by
    rw [hall]
    have : (k + 1) * i.size ≤ (q.length + ys.length) * i.size := Nat.mul_le_mul_right _ (by rw [List.length_append] at hk; omega)
    rw [Nat.add_mul, Nat.one_mul] at this
    omega
  have hv2 : (olds ++ news)[k * i.size + j]? = some v := by
    rw [Nat.zero_add, Array.getElem?_append_left (by simpa using hlt')] at hv
    simpa using hv
  exact (c2 k x j y v hx hy' hv2).mono (fun _ h => h) (fun r hr => (drew_below _).block r (hlt r hr))

theorem app_none {T e : TypeId} {i : TypeInfo} {A Ay : Option Addr} {n cap c' : Nat} (ty : TypeId) (hu : P.underlying T = some (.slice e)) (hi : P.info? e = some i) (hc : n ≤ cap) :
    (Builtin.append_ #[T, T] ty #[.slice A n cap, .slice Ay 0 c']).run P w = .ok (.slice A n cap) w := by
  cases A <;> cases Ay <;> simp [Builtin.append_, run_underlying hu, sizeOf, typeInfo, hi, Builtin.lenOf, Builtin.firstCells, loadCells, loadCellsFrom, hc, storeCells]

theorem appX_ok {e : TypeId} {K : AV → Fr → Sto → Prop} {x : AV} {u : Value} {i : TypeInfo} {zv : Value} {ty : TypeId} {ts : Array TypeId} {yv : Value} {ys : List PV} (h : St cx F ι fr σ a w) (hx : VR F ι w x u)
    (hsz : i.size = szOf P e) (hby : i.bytes = P.bytesOf e) (hpos : 0 < szOf P e) (hzs : zv.cells.size = i.size) (hsrc : Src P F w e i zv ty ts yv ys) (hk : appX P e fr σ K x ys) :
    ∃ ι' fr' σ' w' z t, K z fr' σ' ∧ (Builtin.append_ ts ty #[u, yv]).run P w = .ok t w' ∧ St cx F ι' fr' σ' a w' ∧ VR F ι' w' z t ∧ ∀ wr, inT wr x = true → Step wr F ι σ w F ι' σ' w' := by
  unfold appX at hk
  split at hk
  · rename_i l
    obtain ⟨⟨h0, hfl, hfy, hb, h63⟩, hk⟩ := hk
    have hxl := asL_ok (wr_ := []) (K := fun q => q = l) h.sr hx rfl
    cases hx with
    | tl _ A n hn hv =>
      by_cases hy0 : ys = []
      · subst hy0
        have hl0 : l = [] := by rcases h0 with h0 | h0; exact h0; exact absurd rfl h0
        subst hl0
        have hn0 : n = 0 := hn
        subst hn0
        exact ⟨ι, fr, _, w, _, _, hk, hsrc.non rfl _ _ _ (Nat.le_refl _), h.newNil _ _, .row0 _ _ _ A, fun _ _ => h.stepNil _⟩
      · obtain ⟨q1, hq1, A', c', e1, hq⟩ := hxl
        rw [hq1] at e1 hq
        rw [Value.slice.injEq] at e1
        obtain ⟨e2, e3, e4⟩ := e1
        rw [← e2] at hq
        have hA0 : A = none → l.length = 0 := fun e => by
          by_cases hl0 : l = []
          · rw [hl0]; rfl
          · obtain ⟨_, _, _, e5, _⟩ := hq hl0; rw [e] at e5; cases e5
        obtain ⟨c, w', hrun, hc, hbel, hsz', hrow, hlen⟩ := app_grow (P := P) (A := A) (cap := l.length) hsrc hzs (by rw [hsz]; exact hpos) h.inv.lt hq hA0 (by rw [hsz]; exact hfl) (by rw [hsz]; exact hfy) hy0 (by have := List.length_pos_iff.mpr hy0; omega) (by rw [hby]; exact hb) h63
        refine ⟨put_ ι σ.length (some (w.heap.size, 0)), fr, _, w', _, _, hk, (by rw [hn]; exact hrun), h.newRow hbel hsz' (by rw [← hsz]; exact hrow), ?_, fun _ _ => h.stepNew hbel⟩
        have := VR.row (F := F) (w := w') σ.length (szOf P e) 0 (l.length + ys.length) w.heap.size 0 c (c * i.size) (put_self ι σ.length _) hlen hc (by rw [hsz]; simp)
        simpa using this
  · rename_i b sz o n
    split at hk
    · rename_i T0 sz' l hq
      split at hk
      case h_2 => exact hk.elim
      rename_i k2 k3 k4
      have e4 := (Nat.eq_of_beq_eq_true k4).symm
      subst e4
      have e2 := Nat.eq_of_beq_eq_true k2
      have e3 := Nat.eq_of_beq_eq_true k3
      subst e2
      subst e3
      obtain ⟨q, ⟨hol, hq', hfy, hb, h63⟩, hk⟩ := hk
      have hqn : q.length = n := by rw [← hq']; simp [List.length_take, List.length_drop]; omega
      obtain ⟨q0, hq0e, A, cap, e1, hlq⟩ := asL_ok (wr_ := []) (K := fun q' => q' = q) h.sr hx (by
        simp only [asLK, memN, cond_false, hq, beq_tt, cond_true]
        exact ⟨q, ⟨hol, hq'⟩, rfl⟩)
      subst hq0e
      have hfq : fits (szOf P e) q0 := by
        have hfl : ∀ (i : Nat) x, l[i]? = some x → PV.fit (szOf P e) x := by
          have hb := h.sr.bk b
          rw [hq] at hb
          cases hp : ι b with
          | none => rw [hp] at hb; have hb' : l = [] := hb; subst hb'; intro i x hx; simp at hx
          | some p => obtain ⟨r, β⟩ := p; rw [hp] at hb; obtain ⟨_, _, _, hfl, _⟩ := hb; exact hfl
        have : ∀ (q : List PV), (∀ (i : Nat) x, q[i]? = some x → PV.fit (szOf P e) x) → fits (szOf P e) q := by
          intro q
          induction q with
          | nil => intro _; trivial
          | cons x q ih => intro hh; exact ⟨hh 0 x rfl, ih (fun i y hy => hh (i + 1) y (by simpa using hy))⟩
        refine this q0 fun i x hx => ?_
        rw [← hq', List.getElem?_take] at hx
        split at hx
        · rw [List.getElem?_drop] at hx; exact hfl _ x hx
        · cases hx
      have hstale : ∀ r β, ι b = some (r, β) → r < w.heap.size := fun r β hι => own_lt h.sr (by rw [hq]; rfl) hι
      have hshape : (∃ r β N, ι b = some (r, β) ∧ rowLen w r = some N ∧ A = some ⟨r, β + o * szOf P e, none⟩ ∧ q0.length ≤ cap ∧ β + (o + cap) * szOf P e ≤ N) ∨ (cap = 0 ∧ q0.length = 0) := by
        cases hx with
        | row b sz o n r β c N hι hN hn hc =>
          rw [Value.slice.injEq] at e1
          obtain ⟨e2, e3, e4⟩ := e1
          subst e4
          exact .inl ⟨r, β, N, hι, hN, e2.symm, by omega, hc⟩
        | row0 b sz o A =>
          rw [Value.slice.injEq] at e1
          exact .inr ⟨e1.2.2.symm, e1.2.1.symm⟩
      have hcapA : A = none → cap = 0 := fun e => by
        rcases hshape with ⟨r, β, N, _, _, e2, _⟩ | ⟨h1, _⟩
        · rw [e2] at e; cases e
        · exact h1
      have hle : q0.length ≤ cap := by
        rcases hshape with ⟨r, β, N, _, _, _, h1, _⟩ | ⟨h1, h2⟩ <;> omega
      -- room or none
      by_cases hy0 : ys = []
      · subst hy0
        subst e1
        refine ⟨put_ ι b (match ι b with | some (r, β) => some (r, β + o * szOf P e) | none => none), _, _, w, _, _, hk, hsrc.non rfl _ _ _ hle, h.move hq rfl rfl rfl (Nat.le_refl _) (fun k hk _ => rfl) (fun _ _ h => h) (fun r' β' e => ?_) ?_, ?_, fun wr hin => h.stepMove (by rw [hq]; rfl) hin (fun k hk _ => rfl)⟩
        · cases hp : ι b with
          | none => rw [hp] at e; cases e
          | some p => obtain ⟨r, β⟩ := p; rw [hp] at e; cases e; exact .inr ⟨β, rfl⟩
        · have hb := h.sr.bk b
          rw [hq] at hb
          cases hp : ι b with
          | none =>
            rw [hp] at hb
            have hb' : l = [] := hb
            subst hb'
            show q0 ++ [] = []
            rw [← hq']; simp
          | some p =>
            obtain ⟨r, β⟩ := p
            rw [hp] at hb
            obtain ⟨cs, c1, c2, c3, c4⟩ := hb
            refine ⟨cs, c1, ?_, fun k x hx => ?_, fun k x j y v hx hy hv => ?_⟩
            · have : (o + n) * szOf P e ≤ l.length * szOf P e := Nat.mul_le_mul_right _ hol
              rw [Nat.add_mul] at this
              rw [List.append_nil, hqn]
              omega
            · rw [List.append_nil] at hx; exact fits_get hfq k x hx
            · rw [List.append_nil, ← hq', List.getElem?_take] at hx
              split at hx
              · rw [List.getElem?_drop] at hx
                refine c4 (o + k) x j y v hx hy ?_
                rw [← hv]; congr 1; rw [Nat.add_mul]; omega
              · cases hx
        · rcases hshape with ⟨r, β, N, hι, hN, rfl, hn, hc⟩ | ⟨h1, h2⟩
          · have := VR.row (F := F) (w := w) b (szOf P e) 0 (q0.length + ([] : List PV).length) r (β + o * szOf P e) cap N ((put_self ι b (match ι b with | some (r, β) => some (r, β + o * szOf P e) | none => none)).trans (by rw [hι])) hN (by simpa using hle) (by rw [Nat.zero_add]; rw [Nat.add_mul] at hc; omega)
            simpa [hqn] using this
          · have hq00 : q0 = [] := List.length_eq_zero_iff.mp h2
            subst hq00
            subst h1
            have hn0 : n = 0 := hqn.symm
            subst hn0
            exact VR.row0 b (szOf P e) 0 A
      · skip
        have hylen : 0 < ys.length := List.length_pos_iff.mpr hy0
        by_cases hroom : q0.length + ys.length ≤ cap
        · -- in its place
          subst e1
          rcases hshape with ⟨r, β, N, hι, hN, rfl, hn, hc⟩ | ⟨h1, h2⟩
          · skip
            obtain ⟨news, n1, n3, n4, _, _, rroom⟩ := hsrc.som hy0 (by rw [hsz]; exact hfy)
            rw [hsz] at n1 n4 rroom
            obtain ⟨cs, T', zz, hh, hcsN⟩ := rowLen_some hN
            have hb' := h.sr.bk b
            rw [hq, hι] at hb'
            obtain ⟨cs', hh', hlen, hfl, hp⟩ := hb'
            rw [hh] at hh'
            cases hh'
            have hmul : (q0.length + ys.length) * szOf P e ≤ cap * szOf P e := Nat.mul_le_mul_right _ hroom
            have hspan : β + o * szOf P e + q0.length * szOf P e + news.length ≤ cs.size := by
              rw [Nat.add_mul] at hmul
              rw [Nat.add_mul] at hc
              rw [n1, hcsN]
              omega
            have hrun := rroom r (β + o * szOf P e) q0.length cap hroom
              (fun j hj => by have : β + o * szOf P e + q0.length * szOf P e + j < cs.size := by omega
                              simp [World.cell?, hh, Array.getElem?_eq_getElem this]) (fun j hj => by simp [World.frozen?, hh])
            have hbut : But r w (w.setCells r (β + o * szOf P e + q0.length * szOf P e) news) := But.setCells hh hspan
            have hw : (at_ σ b).w = true := by rw [hq]; rfl
            have hn' : ¬ F r := h.sr.own b r β hw hι
            have hF : ∀ k, F k → (w.setCells r (β + o * szOf P e + q0.length * szOf P e) news).heap[k]? = w.heap[k]? := fun k hk => hbut.block k (h.inv.lt k hk) (fun e => hn' (e ▸ hk))
            refine ⟨put_ ι b (some (r, β + o * szOf P e)), _, _, _, _, _, hk, hrun, h.move hq hbut.os hbut.tape hbut.output hbut.size (fun k hk hne => hbut.block k hk (fun e => hne β (e ▸ hι))) (fun r N hN => hbut.rowLen hN) (fun r' β' e => by cases e; exact .inr ⟨β, hι⟩) ?_, ?_, fun wr hin => h.stepMove (by rw [hq]; rfl) hin (fun k hk hne => hbut.block k hk (fun e => hne β (e ▸ hι)))⟩
            · refine ⟨_, setCells_heap _ _ _ _ hh hspan, ?_, ?_, ?_⟩
              · rw [List.length_append, Nat.add_mul]; simp only [List.size_toArray, spl_len, Array.length_toList]; omega
              · exact fit_app hfq hfy
              · intro k x j y v hx hy hv
                simp only [List.getElem?_toArray] at hv
                rw [spl_get _ _ _ _ (by simpa using hspan)] at hv
                have hxf : x.fit (szOf P e) := by
                  rw [List.getElem?_append] at hx
                  split at hx
                  · exact fits_get hfq _ x hx
                  · exact fits_get hfy _ x hx
                have hj : j < szOf P e := by have := (List.getElem?_eq_some_iff.mp hy).1; have := hxf.1; omega
                rw [List.getElem?_append] at hx
                split at hx
                · rename_i hkq
                  have h1 : (k + 1) * szOf P e ≤ q0.length * szOf P e := Nat.mul_le_mul_right _ hkq
                  rw [Nat.add_mul, Nat.one_mul] at h1
                  rw [if_neg (fun hh => by have := hh.1; omega)] at hv
                  rw [← hq', List.getElem?_take] at hx
                  split at hx
                  · rw [List.getElem?_drop] at hx
                    refine (hp (o + k) x j y v hx hy ?_).mono (fun _ h => h) hF
                    rw [← hv, Array.getElem?_toList]
                    congr 1; rw [Nat.add_mul]; omega
                  · cases hx
                · rename_i hkq
                  have hkl := (List.getElem?_eq_some_iff.mp hx).1
                  have h1 : (k - q0.length + 1) * szOf P e ≤ ys.length * szOf P e := Nat.mul_le_mul_right _ hkl
                  rw [Nat.add_mul, Nat.one_mul] at h1
                  have h2 : k * szOf P e = (k - q0.length) * szOf P e + q0.length * szOf P e := by rw [← Nat.add_mul]; congr 1; omega
                  rw [if_pos ⟨by omega, by omega⟩] at hv
                  refine (n4 (k - q0.length) x j y v hx hy ?_).mono (fun _ h => h) hF
                  rw [← hv]; congr 1; omega
            · have := VR.row (F := F) (w := w.setCells r (β + o * szOf P e + q0.length * szOf P e) news) b (szOf P e) 0 (q0.length + ys.length) r (β + o * szOf P e) cap N (put_self ι b _) (hbut.rowLen hN) hroom (by rw [Nat.zero_add]; rw [Nat.add_mul] at hc; omega)
              simpa [hqn] using this
          · omega
        · obtain ⟨c, w', hrun, hc, hbel, hsz', hrow, hlen⟩ := app_grow (P := P) (A := A) (cap := cap) hsrc hzs (by rw [hsz]; exact hpos) h.inv.lt hlq hcapA (by rw [hsz]; exact hfq) (by rw [hsz]; exact hfy) hy0 (by omega) (by rw [hby, hqn]; exact hb) (by rw [hqn]; exact h63)
          subst e1
          refine ⟨put_ ι b (some (w.heap.size, 0)), _, _, w', _, _, hk, hrun, h.move hq hbel.os hbel.tape hbel.output hbel.size (fun k hk _ => hbel.block k hk) (fun r N hN => (rowLen_same (hbel.block r (rowLen_lt hN))).trans hN) (fun r' β' e => by cases e; exact .inl rfl) (by rw [← hsz]; exact hrow), ?_, fun wr hin => h.stepMove (by rw [hq]; rfl) hin (fun k hk _ => hbel.block k hk)⟩
          have := VR.row (F := F) (w := w') b (szOf P e) 0 (q0.length + ys.length) w.heap.size 0 c (c * i.size) (put_self ι b _) hlen hc (by rw [hsz]; simp)
          simpa [hqn] using this
    · exact hk.elim
  · exact hk.elim

theorem appK_ok {T : TypeId} {K : AV → Fr → Sto → Prop} {x y : AV} {u v : Value} (ty : TypeId) (h : St cx F ι fr σ a w) (hx : VR F ι w x u) (hy : VR F ι w y v) (hk : appK P T fr σ K x y) :
    ∃ ι' fr' σ' w' z t, K z fr' σ' ∧ (Builtin.append_ #[T, T] ty #[u, v]).run P w = .ok t w' ∧ St cx F ι' fr' σ' a w' ∧ VR F ι' w' z t ∧ ∀ wr, inT wr x = true → Step wr F ι σ w F ι' σ' w' := by
  unfold appK at hk
  split at hk
  case h_2 => exact hk.elim
  rename_i e he
  split at hk
  case h_2 => exact hk.elim
  rename_i zl hz k0
  split at hk
  case h_2 => exact hk.elim
  rename_i k1
  have hu := elemOfT_some he
  obtain ⟨i, hi⟩ := info_of_sz k0
  have hsz : i.size = szOf P e := by simp [szOf, Program.cellsOf, hi]
  have hby : i.bytes = P.bytesOf e := by simp [Program.bytesOf, hi]
  have hpos : 0 < szOf P e := Nat.pos_of_ne_zero (fun e1 => by rw [e1] at k0; cases k0)
  obtain ⟨zv, hzv, hzs⟩ : ∃ zv, i.zero = some zv ∧ zv.cells.size = i.size := by
    unfold zeroAV at hz
    rw [hi] at hz
    simp only at hz
    cases hzz : i.zero with
    | none => simp [hzz] at hz
    | some zv =>
      simp only [hzz] at hz
      have := (cellVals_ok (F := F) (ι := ι) (w := w) hz).1
      have e1 := Nat.eq_of_beq_eq_true k1
      exact ⟨zv, rfl, by rw [hsz, ← e1, ← this]; simp⟩
  obtain ⟨ys, hk', Ay, cy, rfl, hly⟩ := asL_ok h.sr hy hk
  have hlies : ys ≠ [] → ∀ {sz}, fits sz ys → ∃ ry oy, Ay = some ⟨ry, oy, none⟩ ∧ Lies F ι σ [] w ys ry oy sz := fun hne sz hf => by
    obtain ⟨ry, oy, sz', e1, hl⟩ := hly hne
    have : sz' = sz := by
      cases ys with
      | nil => exact absurd rfl hne
      | cons x q => rw [← (hl.fit 0 x rfl).1]; exact (fits_get hf 0 x rfl).1
    subst this
    exact ⟨ry, oy, e1, hl⟩
  refine appX_ok h hx hsz hby hpos hzs ⟨fun e0 A n cap hc => ?_, fun hne hf => ?_⟩ hk'
  · subst e0; exact app_none ty hu hi hc
  · obtain ⟨ry, oy, rfl, hL⟩ := hlies hne hf
    obtain ⟨news, n1, n2, n3, n4⟩ := hL.cells (by rw [hsz]; exact hpos)
    exact ⟨news, n1, n3, n4, run_append_nil (P := P) w T ty e i zv hu hi hzv ⟨ry, oy, none⟩ ys.length cy news n1 n2,
      fun b sLen sCap olds o1 o2 hg h63 hfit => run_append_grow (P := P) w T ty e i zv hu hi hzv b sLen sCap olds o1 o2 ⟨ry, oy, none⟩ ys.length cy news n1 n2 hg h63 hfit,
      fun b off sLen sCap hr hc hf => run_append_room_cells (P := P) w T ty e i hu hi b off sLen sCap ⟨ry, oy, none⟩ ys.length cy news n1 n2 n3 hr hc hf⟩

theorem bytesL_len (s : ByteArray) : (bytesL s).length = s.size := by rw [bytesL, List.length_map, Array.length_toList]; rfl
theorem appS_ok {T T' : TypeId} {K : AV → Fr → Sto → Prop} {x y : AV} {u v : Value} (ty : TypeId) (h : St cx F ι fr σ a w) (hx : VR F ι w x u) (hy : VR F ι w y v) (hk : appS P T T' fr σ K x y) :
    ∃ ι' fr' σ' w' z t, K z fr' σ' ∧ (Builtin.append_ #[T, T'] ty #[u, v]).run P w = .ok t w' ∧ St cx F ι' fr' σ' a w' ∧ VR F ι' w' z t ∧ ∀ wr, inT wr x = true → Step wr F ι σ w F ι' σ' w' := by
  unfold appS at hk
  split at hk
  case h_2 => exact hk.elim
  rename_i e he hu'
  split at hk
  case h_2 => exact hk.elim
  rename_i zl hz k0
  split at hk
  case h_2 => exact hk.elim
  rename_i s k1
  have hu := elemOfT_some he
  have hs1 : szOf P e = 1 := Nat.eq_of_beq_eq_true k0
  obtain ⟨i, hi⟩ := info_of_sz (P := P) (T := e) (by rw [hs1]; rfl)
  have hsz : i.size = szOf P e := by simp [szOf, Program.cellsOf, hi]
  have hby : i.bytes = P.bytesOf e := by simp [Program.bytesOf, hi]
  have hpos : 0 < szOf P e := by omega
  obtain ⟨zv, hzv, hzs⟩ : ∃ zv, i.zero = some zv ∧ zv.cells.size = i.size := by
    unfold zeroAV at hz
    rw [hi] at hz
    simp only at hz
    cases hzz : i.zero with
    | none => simp [hzz] at hz
    | some zv =>
      simp only [hzz] at hz
      have := (cellVals_ok (F := F) (ι := ι) (w := w) hz).1
      have e1 := Nat.eq_of_beq_eq_true k1
      exact ⟨zv, rfl, by rw [hsz, ← e1, ← this]; simp⟩
  cases VR.inv_raw hy
  have hl := bytesL_len s
  have hsi : i.size = 1 := by omega
  refine appX_ok h hx hsz hby hpos hzs ⟨fun e0 A n cap hc => ?_, fun hne hf => ?_⟩ hk
  · have h0 : s.size = 0 := by rw [← hl, e0]; rfl
    cases A <;> simp [Builtin.append_, run_underlying hu, run_underlying hu', sizeOf, typeInfo, hi, Builtin.lenOf, hc, h0, Builtin.firstCells, storeCells]
  · have hd : (s.data.map (fun b => Value.int .u8 b.toNat)) = (Lib.strCells s).toArray := by apply Array.ext'; simp [Lib.strCells]
    refine ⟨Lib.strCells s, by rw [Lib.strCells_length, hl, hsi, Nat.mul_one], Lib.strCells_oneCell s, fun k x j y v hx hy hv => ?_, fun h0 h63 h48 => ?_, fun b sLen sCap olds o1 o2 hg h63 hfit => ?_, fun b off sLen sCap hr hc hf => ?_⟩
    · rw [bytesL, List.getElem?_map] at hx
      obtain ⟨b, hb, rfl⟩ := Option.map_eq_some_iff.mp hx
      cases j with
      | succ j => simp [PV.cs] at hy
      | zero =>
        simp [PV.cs] at hy
        subst hy
        rw [hsi, Nat.mul_one, Nat.add_zero, Lib.strCells, List.getElem?_map, hb] at hv
        cases hv
        exact .raw _ rfl
    · rw [hl] at h0 h63 h48 ⊢
      rw [← hd]
      exact run_append_nil_string (P := P) w T T' ty e i zv hu hu' hi hzv s h0 h63 h48
    · rw [hl] at hg h63 hfit ⊢
      exact Lib.run_append_grow_string (P := P) w T T' ty e i zv hu hu' hi hzv b sLen sCap olds o1 o2 s hg h63 hfit
    · rw [hl] at hr ⊢
      have hfc := Lib.run_firstCells_string (P := P) w i.size s
      have hst := run_storeCells_cells (P := P) b (off + sLen * i.size) (Lib.strCells s) 0 w (by simpa using hc) (by simpa using hf) (Lib.strCells_oneCell s)
      simp only [Nat.add_zero] at hst
      simp [Builtin.append_, run_underlying hu, run_underlying hu', sizeOf, typeInfo, hi, Builtin.lenOf, hr, hfc, Addr.add_lit, hst]

/-- unsafe.String over a part of an own row of bytes: the row is none after it. -/
def usK (P : Program) (T : TypeId) (fr : Fr) (σ : Sto) (K : AV → Fr → Sto → Prop) (x y : AV) : Prop := match x, y, P.underlying T with
  | .el b 1 i 0, .p (.raw (.int .i64 n)), some (.pointer e) => match at_ σ b with
    | .row T0 1 l => match Nat.beq T0 e, Nat.beq (szOf P e) 1 with
      | true, true => ∃ s : ByteArray, (0 < s.size ∧ n = s.size ∧ i + s.size ≤ l.length ∧ (l.drop i).take s.size = bytesL s ∧ s.size ≤ 9223372036854775807) ∧ K (.p (S s)) (killF b fr) (killS b (set_ σ b (.row T0 1 [])))
      | _, _ => False
    | _ => False
  | _, _, _ => False
theorem liesAt_bytes {e : TypeId} (hc : P.cellsOf e = 1) (count off n : Nat) (hn : off + n ≤ count) : liesAt P P.depth e count off e n = true := by
  have hd : P.depth = (2 * (P.types.size + Made.depth) + 1) + 1 := rfl
  rw [hd]
  simp only [liesAt, Bool.or_eq_true]
  left
  rw [hd]
  simp [rowAt, hc, hn, sameLayout, Nat.mod_one]
theorem run_unsafeString_at (pt it ty e : TypeId) (hp : P.underlying pt = some (.pointer e)) (hc : P.cellsOf e = 1) (g o cells : Nat) (hsh : w.shape? g = some (e, cells)) (l : List UInt8) (h0 : l ≠ []) (hn : o + l.length ≤ cells) (h63 : l.length ≤ 9223372036854775807)
    (hcell : ∀ j x, l[j]? = some x → w.cell? ((⟨g, o, none⟩ : Addr).add j) = some (.int .u8 x.toNat)) :
    (Builtin.unsafeString_ #[pt, it] ty #[.pointer (some ⟨g, o, none⟩), .int .i64 l.length]).run P w = .ok (.string ⟨l.toArray⟩) (w.freeze ⟨g, o, none⟩ l.length) := by
  have hl : l.length ≠ 0 := by simpa using h0
  have hlb := Lib.run_loadBytes (P := P) w l ⟨g, o, none⟩ .empty hcell
  have hlies := liesAt_bytes (P := P) hc (cells / P.cellsOf e) o l.length (by rw [hc]; simpa using hn)
  have h63' : ¬ (9223372036854775807 : Int) < (l.length : Int) := by omega
  have hdef : Builtin.unsafeString_ #[pt, it] ty #[.pointer (some ⟨g, o, none⟩), .int .i64 l.length] =
      (do
        let n ← asInt (.int .i64 l.length)
        if n < 0 then runtimePanic (.error "unsafe.String: len out of range")
        if n > IntKind.i64.max then unsupported (.unsafePointer "String: a length above the largest int")
        if n = 0 then pure (.string .empty)
        else if ← variablesAt ⟨g, o, none⟩ (← elemOf pt) n.toNat then do
          let s ← loadBytes ⟨g, o, none⟩ .empty n.toNat
          freeze ⟨g, o, none⟩ n.toNat
          pure (.string s)
        else unsupported (.unsafePointer "String: not so many bytes at ptr")) := rfl
  rw [hdef]
  have hmax : IntKind.i64.max = 9223372036854775807 := rfl
  have hneg : ¬ (l.length : Int) < 0 := by omega
  simp [asInt, asIntOf, hmax, h63', hneg, hl, variablesAt, hsh, elemOf, run_underlying hp, hlies, hlb]
theorem freeze_heap (p : Addr) (n k : Nat) : (w.freeze p n).heap.size = w.heap.size ∧ (k ≠ p.block → (w.freeze p n).heap[k]? = w.heap[k]?) ∧ rowLen (w.freeze p n) k = rowLen w k ∧ (w.freeze p n).os = w.os ∧ (w.freeze p n).tape = w.tape ∧ (w.freeze p n).output = w.output := by
  unfold World.freeze
  split
  · exact ⟨rfl, fun _ => rfl, rfl, rfl, rfl, rfl⟩
  · refine ⟨by simp, fun hk => ?_, ?_, rfl, rfl, rfl⟩
    · simp only [Array.getElem?_modify]
      rw [if_neg (fun e => hk e.symm)]
    · unfold rowLen
      simp only [Array.getElem?_modify]
      by_cases e : p.block = k
      · subst e
        rw [if_pos rfl]
        cases hh : w.heap[p.block]? with
        | none => rfl
        | some o => cases o <;> rfl
      · rw [if_neg e]
theorem usK_ok {T T' : TypeId} {K : AV → Fr → Sto → Prop} {x y : AV} {u v : Value} (ty : TypeId) (h : St cx F ι fr σ a w) (hx : VR F ι w x u) (hy : VR F ι w y v) (hk : usK P T fr σ K x y) :
    ∃ ι' fr' σ' w' z t, K z fr' σ' ∧ (Builtin.unsafeString_ #[T, T'] ty #[u, v]).run P w = .ok t w' ∧ St cx F ι' fr' σ' a w' ∧ VR F ι' w' z t ∧ ∀ wr, inT wr x = true → Step wr F ι σ w F ι' σ' w' := by
  unfold usK at hk
  split at hk
  case h_2 => exact hk.elim
  rename_i b i n e hT
  split at hk
  case h_2 => exact hk.elim
  rename_i T0 l hq
  split at hk
  case h_2 => exact hk.elim
  rename_i k1 k2
  have e1 := Nat.eq_of_beq_eq_true k1
  subst e1
  have hc1 : P.cellsOf T0 = 1 := Nat.eq_of_beq_eq_true k2
  obtain ⟨s, ⟨h0, rfl, hle, hsl, h63⟩, hk⟩ := hk
  cases VR.inv_raw hy
  cases hx with
  | el _ _ _ _ r β hι =>
    have hb := h.sr.bk b
    rw [hq, hι] at hb
    obtain ⟨cs, hh, hlen, hfit, hp⟩ := hb
    have hsz : s.data.toList.length = s.size := by rw [Array.length_toList]; rfl
    have hcell : ∀ (j : Nat) (x : UInt8), s.data.toList[j]? = some x → w.cell? ((⟨r, β + (i * 1 + 0), none⟩ : Addr).add j) = some (.int .u8 x.toNat) := by
      intro j x hj
      have hj' : l[i + j]? = some (.raw (.int .u8 (x.toNat : Int))) := by
        have h1 : (bytesL s)[j]? = some (.raw (.int .u8 (x.toNat : Int))) := by simp [bytesL, List.getElem?_map, hj]
        rw [← hsl, List.getElem?_take] at h1
        split at h1
        · rwa [List.getElem?_drop] at h1
        · cases h1
      have hlt : β + (i + j) < cs.size := by have := (List.getElem?_eq_some_iff.mp hj').1; omega
      have := hp (i + j) _ 0 _ cs[β + (i + j)] hj' rfl (by rw [← Array.getElem?_eq_getElem hlt]; congr 1; omega)
      rw [Addr.add_mid]
      have e2 : β + (i * 1 + 0) + j = β + (i + j) := by omega
      rw [e2]
      simp only [World.cell?, hh, Option.isSome_none, Bool.false_eq_true, if_false]
      rw [Array.getElem?_eq_getElem hlt]
      generalize cs[β + (i + j)] = vv at this
      cases this
      rfl
    have hrun := run_unsafeString_at (P := P) (w := w) T T' ty T0 hT hc1 r (β + (i * 1 + 0)) cs.size (by simp [World.shape?, hh]) s.data.toList (fun e => by rw [e] at hsz; simp at hsz; omega) (by omega) (by omega) hcell
    rw [hsz] at hrun
    have hf := fun k => freeze_heap (w := w) ⟨r, β + (i * 1 + 0), none⟩ s.size k
    have hblk : ∀ k, k < w.heap.size → (∀ β', ι b ≠ some (k, β')) → (w.freeze ⟨r, β + (i * 1 + 0), none⟩ s.size).heap[k]? = w.heap[k]? := fun k _ hne => (hf k).2.1 (fun e => hne β (by rw [hι]; exact congrArg (fun z => some (z, β)) e.symm))
    refine ⟨put_ ι b none, _, _, _, _, _, hk, hrun, h.move hq (hf 0).2.2.2.1 (hf 0).2.2.2.2.1 (hf 0).2.2.2.2.2 (Nat.le_of_eq (hf 0).1.symm) hblk (fun r N hN => (hf r).2.2.1.trans hN) (fun r' β' e => by cases e) rfl, VR.raw rfl, fun wr hin => h.stepMove (by rw [hq]; rfl) hin hblk⟩
end
end Go.Proofs.Sy
