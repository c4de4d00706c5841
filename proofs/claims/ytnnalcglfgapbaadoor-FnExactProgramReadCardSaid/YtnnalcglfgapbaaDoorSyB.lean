/- The operations that leave memory alone: what they come to, said over the symbolic heap. -/
import Derived.Test.YtnnalcglfgapbaaDoorSyA
import Derived.Handy
import Derived.IntWalk
set_option linter.unusedVariables false
set_option linter.unusedSimpArgs false
namespace Go.Proofs.Sy
open Go Go.RowKit

def ofVal (v : Value) : AV := match v with
  | .slice none 0 0 => .tl []
  | .pointer none => .p (.bx none)
  | .agg _ | .tuple _ => .dead
  | v => .p (.raw v)
def ev (fr : Fr) : Operand → AV
  | .tmp t => look t fr
  | .const v => ofVal v
  | .global g => .p (.raw (.pointer (some ⟨g, 0, none⟩)))
  | .func f => .p (.raw (.func (.func f) #[] #[]))

theorem ofVal_ok (F : Nat → Prop) (ι : Loc) (w : World) (v : Value) : VR F ι w (ofVal v) v := by
  unfold ofVal
  split
  · exact .tl [] none 0 rfl (.nil none 0)
  · exact .p _ _ .bn
  · exact .dead _
  · exact .dead _
  · rename_i h1 h0 h2 h3
    exact .p _ _ (.raw _ (by cases v <;> simp_all [Value.oneCell']))
theorem ev_ok {cx : Cx} {F : Nat → Prop} {ι : Loc} {fr : Fr} {σ : Sto} {a : Act} {w : World} (h : St cx F ι fr σ a w) (x : Operand) : VR F ι w (ev fr x) (a.eval x) := by
  cases x with
  | tmp t => exact h.fr t
  | const v => exact ofVal_ok F ι w v
  | global g => exact .p _ _ (.raw _ rfl)
  | func f => exact .p _ _ (.raw _ rfl)

abbrev I (n : Int) : PV := .raw (.int .i64 n)
abbrev B (b : Bool) : PV := .raw (.bool b)
abbrev S (s : ByteArray) : PV := .raw (.string s)
def bt (s : ByteArray) (i : Int) : Int := if h : i.toNat < s.size then ((s[i.toNat]'h).toNat : Int) else 0
def wr (k : IntKind) (n : Int) : Int := match k with
  | .i64 => wrap64 n
  | k => k.wrap n
theorem wr_eq (k : IntKind) (n : Int) : wr k n = k.wrap n := by
  cases k <;> first | rfl | exact (IntWalk.i64_left n).symm

def szOf (P : Program) (T : TypeId) : Nat := P.cellsOf T
def isRowT (P : Program) (T : TypeId) : Option Bool := match P.underlying T with
  | some d => some d.isRow
  | none => none
def memN (b : Nat) : List Nat → Bool
  | [] => false
  | c :: l => Nat.beq c b || memN b l
def toAVs : List PV → List AV
  | [] => []
  | x :: l => .p x :: toAVs l
def allP : List AV → Option (List PV)
  | [] => some []
  | .p x :: l => match allP l with
    | some r => some (x :: r)
    | none => none
  | _ :: _ => none
def mkAgg (l : List AV) : AV := match allP l with
  | some r => .p (.agg r)
  | none => .agg l
def nth {α : Type} : List α → Nat → Option α
  | [], _ => none
  | x :: _, 0 => some x
  | _ :: l, n + 1 => nth l n
theorem nth_eq {α : Type} : ∀ (l : List α) (n : Nat), nth l n = l[n]?
  | [], n => by simp [nth]
  | x :: l, 0 => by simp [nth]
  | x :: l, n + 1 => by simp [nth, nth_eq l n]
def dropL {α : Type} : Nat → List α → List α
  | 0, l => l
  | n + 1, [] => []
  | n + 1, _ :: l => dropL n l
theorem dropL_eq {α : Type} : ∀ (n : Nat) (l : List α), dropL n l = l.drop n
  | 0, l => by simp [dropL]
  | n + 1, [] => by simp [dropL]
  | n + 1, x :: l => by simp [dropL, dropL_eq n l]
/-- The first n, when there are so many. -/
def takeL {α : Type} : Nat → List α → Option (List α)
  | 0, _ => some []
  | n + 1, [] => none
  | n + 1, x :: l => match takeL n l with
    | some r => some (x :: r)
    | none => none
theorem takeL_some {α : Type} : ∀ (n : Nat) (l r : List α), takeL n l = some r → r = l.take n ∧ r.length = n
  | 0, l, r, h => by simp [takeL] at h; simp [← h]
  | n + 1, [], r, h => by simp [takeL] at h
  | n + 1, x :: l, r, h => by
    simp only [takeL] at h
    cases hh : takeL n l with
    | none => simp [hh] at h
    | some q =>
      obtain ⟨e, e2⟩ := takeL_some n l q hh
      simp [hh] at h
      subst h
      simp [e2]
      simpa using e

def kn : IntKind → Nat
  | .i8 => 0 | .i16 => 1 | .i32 => 2 | .i64 => 3 | .u8 => 4 | .u16 => 5 | .u32 => 6 | .u64 => 7
def sameK (k k' : IntKind) : Bool := Nat.beq (kn k) (kn k')
theorem sameK_eq {k k' : IntKind} (h : sameK k k' = true) : k = k' := by
  cases k <;> cases k' <;> first | rfl | (simp [sameK, kn] at h)
def bin (op : BinOp) (x y : AV) (K : AV → Prop) : Prop := match x, y with
  | .p (.raw (.int k a)), .p (.raw (.int k' b)) => match op with
   | .shl => 0 ≤ b ∧ K (.p (.raw (.int k (wr k (a * 2 ^ (min b.toNat k.bits))))))
   | .shr => 0 ≤ b ∧ K (.p (.raw (.int k (a.fdiv (2 ^ (min b.toNat k.bits))))))
   | op => match sameK k k' with
   | true => match op with
    | .add => K (.p (.raw (.int k (wr k (a + b)))))
    | .sub => K (.p (.raw (.int k (wr k (a - b)))))
    | .mul => K (.p (.raw (.int k (wr k (a * b)))))
    | .quo => b ≠ 0 ∧ K (.p (.raw (.int k (wr k (a.tdiv b)))))
    | .rem => b ≠ 0 ∧ K (.p (.raw (.int k (a.tmod b))))
    | .eql => K (.p (B (a == b)))
    | .neq => K (.p (B (a != b)))
    | .lss => K (.p (B (decide (a < b))))
    | .leq => K (.p (B (decide (a ≤ b))))
    | .gtr => K (.p (B (decide (a > b))))
    | .geq => K (.p (B (decide (a ≥ b))))
    | .and => K (.p (.raw (.int k (k.wrap (BitVec.ofInt k.bits a &&& BitVec.ofInt k.bits b).toNat))))
    | .or => K (.p (.raw (.int k (k.wrap (BitVec.ofInt k.bits a ||| BitVec.ofInt k.bits b).toNat))))
    | .xor => K (.p (.raw (.int k (k.wrap (BitVec.ofInt k.bits a ^^^ BitVec.ofInt k.bits b).toNat))))
    | _ => False
   | false => False
  | .p (.raw (.string a)), .p (.raw (.string b)) => match op with
    | .add => ((a.size + b.size : Nat) : Int) ≤ 9223372036854775807 ∧ K (.p (S (a ++ b)))
    | .eql => K (.p (B (decide (a = b))))
    | .neq => K (.p (B (!decide (a = b))))
    | .lss => K (.p (B (Op.bytesLess a.toList b.toList)))
    | .gtr => K (.p (B (!(Op.bytesLess a.toList b.toList || decide (a = b)))))
    | .leq => K (.p (B (Op.bytesLess a.toList b.toList || decide (a = b))))
    | .geq => K (.p (B (!Op.bytesLess a.toList b.toList)))
    | _ => False
  | _, _ => False

theorem toList_loop (s : ByteArray) : ∀ (d i : Nat) (r : List UInt8), s.size - i = d → ByteArray.toList.loop s i r = r.reverse ++ s.data.toList.drop i
  | 0, i, r, h => by
    have e : s.size = s.data.toList.length := by rw [Array.length_toList]; rfl
    rw [ByteArray.toList.loop, if_neg (by omega), List.drop_eq_nil_of_le (by omega), List.append_nil]
  | d + 1, i, r, h => by
    have hi : i < s.size := by omega
    rw [ByteArray.toList.loop, if_pos hi, toList_loop s d (i + 1) _ (by omega)]
    have hd : s.data.toList.drop i = s.get! i :: s.data.toList.drop (i + 1) := by
      have hs : i < s.data.size := hi
      rw [List.drop_eq_getElem_cons (by rw [Array.length_toList]; exact hs)]
      congr 1
      rw [Array.getElem_toList]
      exact (getElem!_pos s.data i hs).symm
    rw [hd]
    simp
theorem toList_eq (s : ByteArray) : s.toList = s.data.toList := by
  rw [ByteArray.toList, toList_loop s _ 0 [] rfl]; simp

theorem string_eq_list (a b : ByteArray) : (a.toList == b.toList) = decide (a = b) := by
  have h : a.toList = b.toList ↔ a = b := by
    constructor
    · intro h
      rw [toList_eq, toList_eq] at h
      cases a; cases b
      congr 1
      exact Array.toList_inj.mp h
    · intro h; rw [h]
  by_cases e : a = b
  · subst e; simp
  · have : ¬ a.toList = b.toList := fun hh => e (h.mp hh)
    simp [e, this]

/-- A list's elements, of whatever kind the handle is. -/
def asLK (σ : Sto) (wr : List Nat) (K : List PV → Prop) : AV → Prop
  | .p (.lst l) => K l
  | .tl l => K l
  | .row b sz o n => bif memN b wr then False else match at_ σ b with
    | .row _ sz' l => bif Nat.beq sz sz' then ∃ q, (o + n ≤ l.length ∧ (l.drop o).take n = q) ∧ K q else False
    | .fz _ sz' l => bif Nat.beq sz sz' then ∃ q, (o + n ≤ l.length ∧ (l.drop o).take n = q) ∧ K q else False
    | .lend _ sz' l => bif Nat.beq sz sz' then ∃ q, (o + n ≤ l.length ∧ (l.drop o).take n = q) ∧ K q else False
    | _ => False
  | _ => False
def lenK (K : AV → Prop) : Bool → AV → Prop
  | true, .p (.raw (.string s)) => K (.p (I s.size))
  | false, .p (.lst l) => K (.p (I l.length))
  | false, .tl l => K (.p (I l.length))
  | false, .row b sz o n => K (.p (I n))
  | _, _ => False
def getK (P : Program) (T : TypeId) (c : List AV) (off : Nat) (K : AV → Prop) : Prop :=
  match isRowT P T with
  | none => False
  | some true => match takeL (szOf P T) (dropL off c) with
    | some r => K (mkAgg r)
    | none => False
  | some false => match nth c off with
    | some x => K x
    | none => False
def loadK (P : Program) (T : TypeId) (σ : Sto) (wr : List Nat) (K : AV → Prop) : AV → Prop
  | .ptr b off => bif memN b wr then False else match at_ σ b with
    | .box _ c => getK P T c off K
    | .fb c => getK P T (toAVs c) off K
    | _ => False
  | .el b sz i off => bif memN b wr then False else match at_ σ b with
    | .row _ sz' l => bif Nat.beq sz sz' then ∃ x, l[i]? = some x ∧ getK P T (toAVs x.cs) off K else False
    | .fz _ sz' l => bif Nat.beq sz sz' then ∃ x, l[i]? = some x ∧ getK P T (toAVs x.cs) off K else False
    | .lend _ sz' l => bif Nat.beq sz sz' then ∃ x, l[i]? = some x ∧ getK P T (toAVs x.cs) off K else False
    | _ => False
  | .fp x off => getK P T (toAVs x.cs) off K
  | _ => False
def addrK (o : Nat) (K : AV → Prop) : AV → Prop
  | .ptr b off => K (.ptr b (off + o))
  | .el b sz i off => K (.el b sz i (off + o))
  | .fp x off => K (.fp x (off + o))
  | _ => False
def fieldK (P : Program) (T : TypeId) (f : Nat) (K : AV → Prop) (x : AV) : Prop := match P.underlying T with
  | some (.struct fs) => match fs[f]? with
    | some fd => bif Nat.beq (szOf P fd.type) 0 then False else addrK fd.offset K x
    | none => False
  | _ => False
def elemOfT (P : Program) (T : TypeId) : Option TypeId := match P.underlying T with
  | some (.slice e) => some e
  | _ => none
def indexK (P : Program) (T : TypeId) (K : AV → Prop) (x i : AV) : Prop := match i with
  | .p (.raw (.int k i)) => match elemOfT P T with
    | some e => match x with
      | .p (.lst l) => match Nat.beq (szOf P e) 0 with
        | true => False
        | false => 0 ≤ i ∧ ∃ x, l[i.toNat]? = some x ∧ x.cs.length = szOf P e ∧ K (.fp x 0)
      | .tl l => match Nat.beq (szOf P e) 0 with
        | true => False
        | false => 0 ≤ i ∧ ∃ x, l[i.toNat]? = some x ∧ x.cs.length = szOf P e ∧ K (.fp x 0)
      | .row b sz o n => match Nat.beq sz (szOf P e), Nat.beq (szOf P e) 0 with
        | true, false => (0 ≤ i ∧ i < n) ∧ K (.el b sz (o + i.toNat) 0)
        | _, _ => False
      | _ => False
    | none => False
  | _ => False
def chK (P : Program) (T : TypeId) (K : AV → Prop) (x i : AV) : Prop := match P.underlying T with
  | some .string => match x, i with
    | .p (.raw (.string s)), .p (.raw (.int k i)) => (0 ≤ i ∧ i < s.size) ∧ K (.p (.raw (.int .u8 (bt s i))))
    | _, _ => False
  | _ => False
def oInt (d : Int) : Option AV → Option Int
  | none => some d
  | some (.p (.raw (.int _ i))) => some i
  | _ => none
def hdFit (P : Program) (e : TypeId) (l : Int) (x : List PV) : Prop := l = 0 ∨ ∀ y, x[0]? = some y → y.cs.length = szOf P e
def sliceLK (P : Program) (e : TypeId) (K : AV → Prop) (x : List PV) (lo hi : Option Int) (mx : Option AV) (hs : Bool) : Prop := match lo, hi, mx with
  | some l, some h, none => (0 ≤ l ∧ l ≤ h ∧ h ≤ x.length) ∧ hdFit P e l x ∧ K (.p (.lst ((x.take h.toNat).drop l.toNat)))
  | some l, some h, some (.p (.raw (.int _ m))) => bif hs then (0 ≤ l ∧ l ≤ h ∧ h = m ∧ m ≤ x.length) ∧ hdFit P e l x ∧ K (.tl ((x.take h.toNat).drop l.toNat)) else False
  | _, _, _ => False
def sliceK (P : Program) (T : TypeId) (K : AV → Prop) (x : AV) (lo hi mx : Option AV) : Prop := match P.underlying T, x with
  | some .string, .p (.raw (.string s)) => match mx, oInt 0 lo, oInt s.size hi with
    | none, some l, some h => (0 ≤ l ∧ l ≤ h ∧ h ≤ s.size) ∧ K (.p (S (s.extract l.toNat h.toNat)))
    | _, _, _ => False
  | some (.slice e), .p (.lst x) => bif Nat.beq (szOf P e) 0 then False else sliceLK P e K x (oInt 0 lo) (oInt x.length hi) mx hi.isSome
  | some (.slice e), .tl x => bif Nat.beq (szOf P e) 0 then False else sliceLK P e K x (oInt 0 lo) (oInt x.length hi) mx hi.isSome
  | some (.slice e), .row b sz o n => match oInt 0 lo, oInt n hi, mx with
    | some l, some h, none => bif Nat.beq sz (szOf P e) then (bif Nat.beq sz 0 then False else (0 ≤ l ∧ l ≤ h ∧ h ≤ n) ∧ K (.row b sz (o + l.toNat) (h - l).toNat)) else False
    | _, _, _ => False
  | _, _ => False
def nilK (K : AV → Prop) : AV → Prop
  | .ptr b o => K (.ptr b o)
  | .el b s i o => K (.el b s i o)
  | .fp x o => K (.fp x o)
  | .p (.bx o) => ∃ y, o = some y ∧ K (.fp y 0)
  | .p (.raw (.func (.func f) a b)) => K (.p (.raw (.func (.func f) a b)))
  | _ => False
def unK (op : UnOp) (K : AV → Prop) : AV → Prop
  | .p (.raw (.int k n)) => match op with
    | .neg => K (.p (.raw (.int k (wr k (0 - n)))))
    | _ => False
  | .p (.raw (.bool b)) => match op with
    | .not => K (.p (B (!b)))
    | _ => False
  | _ => False
def isNilT (P : Program) (T : TypeId) : Bool := match P.underlying T with
  | some (.pointer e) => true
  | _ => false
/-- == and != beyond numbers and strings: bools; a pointer and nil. -/
def eqK (P : Program) (T : TypeId) (neg : Bool) (K : AV → Prop) (x y : AV) : Prop := match P.underlying T with
  | some .bool => match x, y with
    | .p (.raw (.bool a)), .p (.raw (.bool b)) => K (.p (B (xor neg (a == b))))
    | _, _ => False
  | some (.pointer e) => match x, y with
    | .ptr _ _, .p (.bx none) => K (.p (B neg))
    | .el _ _ _ _, .p (.bx none) => K (.p (B neg))
    | .fp _ _, .p (.bx none) => K (.p (B neg))
    | .p (.bx o), .p (.bx none) => (o = none ∧ K (.p (B (!neg)))) ∨ ∃ z, o = some z ∧ K (.p (B neg))
    | .ptr b o, .ptr b' o' => match Nat.beq b b', Nat.beq o o', (P.info? e).isSome with
      | true, true, true => K (.p (B (!neg)))
      | _, _, _ => False
    | _, _ => False
  | _ => False
def binK (P : Program) (op : BinOp) (T : TypeId) (K : AV → Prop) (x y : AV) : Prop := match P.underlying T with
  | some (.int _) => bin op x y K
  | some .string => bin op x y K
  | _ => match op with
    | .eql => eqK P T false K x y
    | .neq => eqK P T true K x y
    | _ => False
def bytesL (s : ByteArray) : List PV := s.data.toList.map fun b => .raw (.int .u8 b.toNat)
def convK (P : Program) (src dst : TypeId) (σ : Sto) (wr_ : List Nat) (K : AV → Prop) (x : AV) : Prop := match P.underlying src, P.underlying dst with
  | some (.int _), some (.int k) => match x with
    | .p (.raw (.int _ n)) => K (.p (.raw (.int k (wr k n))))
    | _ => False
  | some .string, some .string => match x with
    | .p (.raw (.string s)) => K (.p (S s))
    | _ => False
  | some (.slice e), some .string => match P.underlying e with
    | some (.int .u8) => asLK σ wr_ (fun l => ∃ s, l = bytesL s ∧ K (.p (S s))) x
    | _ => False
  | some (.pointer t), some .unsafePointer => match x with
    | .ptr b o => bif memN b wr_ then False else match at_ σ b, P.info? t with
      | .box _ c, some j => (match Nat.beq j.size 0, Nat.blt o c.length with
        | false, true => K (.ptr b o)
        | _, _ => False)
      | _, _ => False
    | _ => False
  | some .unsafePointer, some (.pointer u) => match x with
    | .ptr b o => bif memN b wr_ then False else match at_ σ b, (P.info? u).isSome with
      | .box T c, true => liesAt P P.depth T (c.length / P.cellsOf T) o u 1 = true ∧ K (.ptr b o)
      | _, _ => False
    | _ => False
  | _, _ => False
def mxK (K : AV → Prop) (mn : Bool) : List AV → Prop
  | [.p (.raw (.int .i64 x)), .p (.raw (.int .i64 y))] => K (.p (I (match mn with | true => if y < x then y else x | false => if y > x then y else x)))
  | _ => False
/-- unsafe.SliceData of an own row. -/
def sdK (K : AV → Prop) : AV → Prop
  | .row b sz o n => 0 < n ∧ K (.el b sz o 0)
  | _ => False
def still (P : Program) (fr : Fr) (σ : Sto) (wr_ : List Nat) (K : AV → Prop) : Op → Prop
  | .move x => K (ev fr x)
  | .assign x => K (ev fr x)
  | .pick c a b => match ev fr c with
    | .p (.raw (.bool t)) => (t = true → K (ev fr a)) ∧ (t = false → K (ev fr b))
    | _ => False
  | .binOp op T x y _ => binK P op T K (ev fr x) (ev fr y)
  | .unOp op _ x => unK op K (ev fr x)
  | .load T x => loadK P T σ wr_ K (ev fr x)
  | .fieldAddr T x f => fieldK P T f K (ev fr x)
  | .indexAddr T x i => indexK P T K (ev fr x) (ev fr i)
  | .index T x i => chK P T K (ev fr x) (ev fr i)
  | .slice T x lo hi mx => sliceK P T K (ev fr x) (lo.map (ev fr)) (hi.map (ev fr)) (mx.map (ev fr))
  | .nilCheck x => nilK K (ev fr x)
  | .extract x i => match ev fr x with
    | .tup l => match nth l i with
      | some y => K y
      | none => False
    | _ => False
  | .convert s d x => convK P s d σ wr_ K (ev fr x)
  | .call c => match c.callee, c.args.toList, c.argTypes.toList with
    | .builtin .len, [x], [T] => match P.underlying T with
      | some .string => lenK K true (ev fr x)
      | some (.slice _) => lenK K false (ev fr x)
      | _ => False
    | .builtin .max, [x, y], _ => mxK K false [ev fr x, ev fr y]
    | .builtin .min, [x, y], _ => mxK K true [ev fr x, ev fr y]
    | .builtin .unsafeSliceData, [x], _ => sdK K (ev fr x)
    | _, _, _ => False
  | _ => False

/-- The worlds in which what may be read lies as here. -/
def Same (F : Nat → Prop) (ι : Loc) (σ : Sto) (wr_ : List Nat) (w w' : World) : Prop :=
  (∀ r, F r → w'.heap[r]? = w.heap[r]?) ∧ ∀ b r β, (at_ σ b).w = true → memN b wr_ = false → ι b = some (r, β) → w'.heap[r]? = w.heap[r]?
theorem Same.refl {F : Nat → Prop} {ι : Loc} {σ : Sto} {wr_ : List Nat} {w : World} : Same F ι σ wr_ w w := ⟨fun _ _ => rfl, fun _ _ _ _ _ _ => rfl⟩
end Go.Proofs.Sy
