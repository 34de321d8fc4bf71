/- What single operations yield, reckoned: the slots of a frame as a list, values as they stand. -/
import Derived.Test.YtmochicneilhhaaGreatPMem
import Derived.Test.YtmochicneilhhaaGreatPSer
namespace Go.Proofs.YtmochicneilhhaaGreat
open Go.RowKit

/-- a type, as far as the walk looks at it -/
inductive TD where
  | bool
  | int (k : IntKind)
  | string
  | pointer (e : TypeId)
  | slice (e : TypeId)
  | array (n : Nat) (e : TypeId)
  | struct (fs : List (TypeId × Nat))
  | iface
  | other
def td : TypeDesc → TD
  | .bool => .bool
  | .int k => .int k
  | .string => .string
  | .pointer e => .pointer e
  | .slice e => .slice e
  | .array n e => .array n e
  | .struct fs => .struct (fs.toList.map fun f => (f.type, f.offset))
  | .interface _ => .iface
  | _ => .other
structure TyI where
  desc : TD
  size : Nat
  bytes : Nat
  zero : Option Value
def TyI.Good (P : Program) (T : TypeId) (i : TyI) : Prop := (P.underlying T).map td = some i.desc ∧ (P.info? T).map (fun f => (f.size, f.bytes, f.zero)) = some (i.size, i.bytes, i.zero)
structure Env (P : Program) where
  f : Nat → Option TyI
  ok : ∀ T i, f T = some i → i.Good P T

/-- a condition; none: it holds -/
def cb : Option Bool → Bool
  | none => true
  | some c => c
/-- slot, condition, value; the newest first -/
abbrev Fr := List (Nat × Option Bool × Value)
def lk : Fr → Nat → Option (Option Bool × Value)
  | [], _ => none
  | (d, c, v) :: t, k => match Nat.beq d k with
    | true => some (c, v)
    | false => lk t k
structure Frm (n : Nat) (t : Fr) (a : Act) : Prop where
  defers : a.defers = []
  size : a.tmps.size = n
  slot : ∀ d c v, lk t d = some (c, v) → a.tmps[d]? = some (bif cb c then v else undef)
def ov (t : Fr) : Operand → Option (Option Bool × Value)
  | .tmp d => lk t d
  | .const v => some (none, v)
  | .global g => some (none, .pointer (some ⟨g, 0, none⟩))
  | .func f => some (none, .func (.func f) #[] #[])
/-- the operand's value, if it is there without condition -/
def o1 (t : Fr) (x : Operand) : Option Value := match ov t x with
  | some (none, v) => some v
  | _ => none
/-- the operand's value under its condition -/
def o2 (t : Fr) (x : Operand) : Option Value := match ov t x with
  | some (_, v) => some v
  | none => none

section
variable {n : Nat} {t : Fr} {a : Act}
theorem lk_cons_self (d : Nat) (c : Option Bool) (v : Value) : lk ((d, c, v) :: t) d = some (c, v) := by
  have : Nat.beq d d = true := Nat.beq_refl d
  simp only [lk, this]
theorem lk_cons_ne {d k : Nat} (h : d ≠ k) (c : Option Bool) (v : Value) : lk ((d, c, v) :: t) k = lk t k := by
  have : Nat.beq d k = false := by
    cases hb : Nat.beq d k
    · rfl
    · exact absurd (Nat.eq_of_beq_eq_true hb) h
  simp only [lk, this]
theorem Frm.put (h : Frm n t a) {d : Nat} (hd : d < n) (c : Option Bool) (v : Value) : Frm n ((d, c, v) :: t) (a.put (some d) (bif cb c then v else undef)) := by
  refine ⟨h.defers, by simp [Act.put, h.size], fun k c' v' hk => ?_⟩
  by_cases hdk : d = k
  · subst hdk
    rw [lk_cons_self] at hk
    cases hk
    simp [Act.put, h.size, hd]
  · rw [lk_cons_ne hdk] at hk
    simp only [Act.put]
    rw [Array.getElem?_setIfInBounds_ne hdk]
    exact h.slot k c' v' hk
theorem Frm.put1 (h : Frm n t a) {d : Nat} (hd : d < n) (v : Value) : Frm n ((d, none, v) :: t) (a.put (some d) v) := h.put hd none v
theorem Frm.tmp (h : Frm n t a) {d : Nat} {c : Option Bool} {v : Value} (hk : lk t d = some (c, v)) : a.tmps.getD d undef = bif cb c then v else undef := by
  rw [Array.getD_eq_getD_getElem?, h.slot d c v hk]
  rfl
theorem Frm.ov (h : Frm n t a) {x : Operand} {c : Option Bool} {v : Value} (hk : ov t x = some (c, v)) (hc : cb c = true) : a.eval x = v := by
  cases x
  case tmp d =>
    have := h.tmp hk
    rw [hc] at this
    exact this
  all_goals (cases hk; rfl)
theorem Frm.o1 (h : Frm n t a) {x : Operand} {v : Value} (hk : o1 t x = some v) : a.eval x = v := by
  unfold Go.Proofs.YtmochicneilhhaaGreat.o1 at hk
  split at hk
  · rename_i u hu; cases hk; exact h.ov hu rfl
  · cases hk
end

/-- what binary operators make of two integers, where nothing can go wrong -/
def evInt (op : BinOp) (k : IntKind) (a b : Int) : Option Value :=
  match op with
  | .add => some (.int k (k.wrap (a + b)))
  | .sub => some (.int k (k.wrap (a - b)))
  | .mul => some (.int k (k.wrap (a * b)))
  | .and => some (.int k (k.wrap (BitVec.ofInt k.bits a &&& BitVec.ofInt k.bits b).toNat))
  | .or => some (.int k (k.wrap (BitVec.ofInt k.bits a ||| BitVec.ofInt k.bits b).toNat))
  | .xor => some (.int k (k.wrap (BitVec.ofInt k.bits a ^^^ BitVec.ofInt k.bits b).toNat))
  | .eql => some (.bool (a == b))
  | .neq => some (.bool (a != b))
  | .lss => some (.bool (decide (a < b)))
  | .leq => some (.bool (decide (a ≤ b)))
  | .gtr => some (.bool (decide (a > b)))
  | .geq => some (.bool (decide (a ≥ b)))
  | _ => none
def isAggD : TD → Bool
  | .struct _ | .array _ _ => true
  | _ => false
def evPick (c a b : Option Value) : Option Value := match c with
  | some (.bool c) => match a, b with
    | some (.bool x), some (.bool y) => some (.bool (bif c then x else y))
    | some x, some y => match c with
      | true => some x
      | false => some y
    | _, _ => none
  | _ => none
def evNil : Option Value → Option Value
  | some (.pointer (some a)) => some (.pointer (some a))
  | some (.func (.func g) a b) => some (.func (.func g) a b)
  | _ => none
def evUn (op : UnOp) (x : Option Value) : Option Value := match op with
  | .not => match x with
    | some (.bool b) => some (.bool (!b))
    | _ => none
  | .neg => match x with
    | some (.int k n) => some (.int k (k.wrap (0 - n)))
    | _ => none
  | _ => none
def evShl (x y : Option Value) : Option Value := match x, y with
  | some (.int k a), some (.int _ (.ofNat b)) => some (.int k (k.wrap (a * 2 ^ min b k.bits)))
  | _, _ => none
def evShr (x y : Option Value) : Option Value := match x, y with
  | some (.int k a), some (.int _ (.ofNat b)) => some (.int k (a.fdiv (2 ^ min b k.bits)))
  | _, _ => none
def evEq (op : BinOp) (b : Bool) : Option Value := match op with
  | .eql => some (.bool b)
  | .neq => some (.bool (!b))
  | _ => none
def evStr (op : BinOp) (a b : ByteArray) : Option Value := match op with
  | .eql => some (.bool (a.toList == b.toList))
  | .neq => some (.bool (!(a.toList == b.toList)))
  | .lss => some (.bool (Op.bytesLess a.toList b.toList))
  | .leq => some (.bool (Op.bytesLess a.toList b.toList || a.toList == b.toList))
  | .gtr => some (.bool (!(Op.bytesLess a.toList b.toList || a.toList == b.toList)))
  | .geq => some (.bool (!Op.bytesLess a.toList b.toList))
  | _ => none
def tyOf (f : Nat → Option TyI) (T : Nat) : TD := match f T with
  | some i => i.desc
  | none => .other
def evBin (f : Nat → Option TyI) (op : BinOp) (T : TypeId) (x y : Option Value) : Option Value := match x with
  | some (.int k a) => match y with
    | some (.int k' b) => match decEq k k' with
      | .isTrue _ => evInt op k a b
      | .isFalse _ => none
    | _ => none
  | some (.string a) => match y with
    | some (.string b) => evStr op a b
    | _ => none
  | some (.bool a) => match y, tyOf f T with
    | some (.bool b), .bool => evEq op (a == b)
    | _, _ => none
  | some (.pointer a) => match y, tyOf f T with
    | some (.pointer none), .pointer _ => evEq op a.isNone
    | _, _ => none
  | some (.slice a _ _) => match y, tyOf f T with
    | some (.slice none _ _), .slice _ => evEq op a.isNone
    | _, _ => none
  | _ => none
def evConv (f : Nat → Option TyI) (S T : TypeId) (x : Option Value) : Option Value := match f S with
  | none => none
  | some _ => match x with
    | some (.int _ n) => match tyOf f T with
      | .int k => some (.int k (k.wrap n))
      | _ => none
    | some (.string s) => match tyOf f T with
      | .string => some (.string s)
      | _ => none
    | _ => none
def evFieldAddr (f : Nat → Option TyI) (T : TypeId) (x : Option Value) (j : Nat) : Option Value := match x with
  | some (.pointer (some a)) => match tyOf f T with
    | .struct fs => match fs[j]? with
      | some fd => match f fd.1 with
        | some i => match i.size with
          | 0 => none
          | _ + 1 => some (.pointer (some (a.add fd.2)))
        | none => none
      | none => none
    | _ => none
  | _ => none
def evPart (f : Nat → Option TyI) (T : TypeId) (cs : List Value) (off : Nat) : Option Value := match f T with
  | some i => match isAggD i.desc with
    | true => some (.agg ((cs.drop off).take i.size).toArray)
    | false => cs[off]?
  | none => none
def evField (f : Nat → Option TyI) (T : TypeId) (x : Option Value) (j : Nat) : Option Value := match x with
  | some (.agg cs) => match tyOf f T with
    | .struct fs => match fs[j]? with
      | some fd => evPart f fd.1 cs.toList fd.2
      | none => none
    | _ => none
  | _ => none
def evExtract (x : Option Value) (j : Nat) : Option Value := match x with
  | some (.tuple vs) => vs.toList[j]?
  | _ => none
def evFace (f : Nat → Option TyI) (T : TypeId) (x : Option Value) : Option Value := match f T with
  | none => none
  | some i => match i.desc with
    | .iface => none
    | _ => match x with
      | some v => some (.iface T v)
      | none => none
def evLen (f : Nat → Option TyI) (T : TypeId) (x : Option Value) : Option Value := match x with
  | some (.string s) => match tyOf f T with
    | .string => some (.int .i64 s.size)
    | _ => none
  | some (.slice _ n _) => match tyOf f T with
    | .slice _ => some (.int .i64 n)
    | _ => none
  | _ => none
def evCap (f : Nat → Option TyI) (T : TypeId) (x : Option Value) : Option Value := match x with
  | some (.slice _ _ n) => match tyOf f T with
    | .slice _ => some (.int .i64 n)
    | _ => none
  | _ => none
def evMax (x y : Option Value) : Option Value := match x, y with
  | some (.int k a), some (.int _ b) => some (.int k (if b > a then b else a))
  | _, _ => none
def evMin (x y : Option Value) : Option Value := match x, y with
  | some (.int k a), some (.int _ b) => some (.int k (if b < a then b else a))
  | _, _ => none
def evCall (f : Nat → Option TyI) (ρ : Operand → Option Value) (b : Builtin) (args : List Operand) (ts : List TypeId) : Option Value := match args with
  | [x] => match ts with
    | [T] => match b with
      | .len => evLen f T (ρ x)
      | .cap => evCap f T (ρ x)
      | _ => none
    | _ => none
  | [x, y] => match b with
    | .max => evMax (ρ x) (ρ y)
    | .min => evMin (ρ x) (ρ y)
    | _ => none
  | _ => none
/-- an operation that looks at nothing but its operands, and cannot fail -/
def evOp (f : Nat → Option TyI) (ρ : Operand → Option Value) : Op → Option Value
  | .move x => ρ x
  | .assign x => ρ x
  | .pick c a b => evPick (ρ c) (ρ a) (ρ b)
  | .nilCheck x => evNil (ρ x)
  | .unOp op _ x => evUn op (ρ x)
  | .binOp op T x y _ => match op with
    | .shl => evShl (ρ x) (ρ y)
    | .shr => evShr (ρ x) (ρ y)
    | op => evBin f op T (ρ x) (ρ y)
  | .convert S T x => evConv f S T (ρ x)
  | .fieldAddr T x j => evFieldAddr f T (ρ x) j
  | .field T x j => evField f T (ρ x) j
  | .extract x j => evExtract (ρ x) j
  | .makeInterface T x => evFace f T (ρ x)
  | .call c => match c.callee with
    | .builtin b => evCall f ρ b c.args.toList c.argTypes.toList
    | _ => none
  | _ => none

section
variable {P : Program} {E : Env P} {ρ : Operand → Option Value} {σ : Operand → Value}
theorem Env.und (E : Env P) {T : TypeId} {i : TyI} (h : E.f T = some i) : ∃ d, td d = i.desc ∧ P.underlying T = some d ∧ ∀ w, (underlying T).run P w = .ok d w := by
  have := (E.ok T i h).1
  cases hu : P.underlying T with
  | none => rw [hu] at this; cases this
  | some d =>
    rw [hu] at this
    exact ⟨d, by simpa using this, rfl, run_underlying hu⟩
theorem Env.info (E : Env P) {T : TypeId} {i : TyI} (h : E.f T = some i) : ∃ g, P.info? T = some g ∧ g.size = i.size ∧ g.bytes = i.bytes ∧ g.zero = i.zero := by
  have := (E.ok T i h).2
  cases hg : P.info? T with
  | none => rw [hg] at this; cases this
  | some g =>
    rw [hg] at this
    simp only [Option.map_some, Option.some.injEq, Prod.mk.injEq] at this
    exact ⟨g, rfl, this⟩
theorem Env.size (E : Env P) {T : TypeId} {i : TyI} (h : E.f T = some i) (w : World) : (sizeOf T).run P w = .ok i.size w := by
  obtain ⟨g, hg, hs, _, _⟩ := E.info h
  simp [sizeOf, typeInfo, hg, hs]
theorem Env.zero (E : Env P) {T : TypeId} {i : TyI} {z : Value} (h : E.f T = some i) (hz : i.zero = some z) (w : World) : (zeroValue T).run P w = .ok z w := by
  obtain ⟨g, hg, _, _, h0⟩ := E.info h
  simp [zeroValue, typeInfo, hg, h0, hz]

theorem evInt_ok {op : BinOp} {k : IntKind} {a b : Int} {v : Value} (h : evInt op k a b = some v) (T : TypeId) (w : World) : (binOp op T (.int k a) (.int k b)).run P w = .ok v w := by
  cases op <;> simp only [evInt, Option.some.injEq, reduceCtorEq] at h <;> subst h <;> simp [binOp, Op.intArith, Op.intBits, Op.intCmp]

theorem eqGuard_ok (op : BinOp) (T : TypeId) (x y : Operand) {a b : Value} (w : World) (h1 : ∀ cs, a ≠ .agg cs) (h2 : a ≠ .nilIface) : (eqGuard op T x y a b).run P w = .ok () w := by
  unfold eqGuard
  cases a <;> cases b <;> cases op <;> simp_all

theorem run_v {s : Sem Value} {v : Value} {w : World} (h : s.run P w = .ok v w) : (do pure (.value (← s)) : Sem Next).run P w = .ok (.value v) w := by simp [h]

theorem tyOf_U {T : TypeId} {x : TD} (h : tyOf E.f T = x) (hx : x ≠ .other) : ∃ d, td d = x ∧ P.underlying T = some d := by
  unfold tyOf at h
  split at h
  · rename_i i hi
    obtain ⟨d, h1, h2, _⟩ := E.und hi
    exact ⟨d, h1.trans h, h2⟩
  · exact absurd h.symm hx
theorem tyOf_bool {T : TypeId} (h : tyOf E.f T = .bool) : P.underlying T = some .bool := by
  obtain ⟨d, h1, h2⟩ := tyOf_U h (by simp); cases d <;> simp_all [td]
theorem tyOf_int {T : TypeId} {k : IntKind} (h : tyOf E.f T = .int k) : P.underlying T = some (.int k) := by
  obtain ⟨d, h1, h2⟩ := tyOf_U h (by simp); cases d <;> simp_all [td]
theorem tyOf_string {T : TypeId} (h : tyOf E.f T = .string) : P.underlying T = some .string := by
  obtain ⟨d, h1, h2⟩ := tyOf_U h (by simp); cases d <;> simp_all [td]
theorem tyOf_pointer {T e : TypeId} (h : tyOf E.f T = .pointer e) : P.underlying T = some (.pointer e) := by
  obtain ⟨d, h1, h2⟩ := tyOf_U h (by simp); cases d <;> simp_all [td]
theorem tyOf_slice {T e : TypeId} (h : tyOf E.f T = .slice e) : P.underlying T = some (.slice e) := by
  obtain ⟨d, h1, h2⟩ := tyOf_U h (by simp); cases d <;> simp_all [td]
theorem tyOf_array {T e : TypeId} {m : Nat} (h : tyOf E.f T = .array m e) : P.underlying T = some (.array m e) := by
  obtain ⟨d, h1, h2⟩ := tyOf_U h (by simp); cases d <;> simp_all [td]
theorem tyOf_struct {T : TypeId} {fs : List (TypeId × Nat)} (h : tyOf E.f T = .struct fs) : ∃ gs : Array Field, gs.toList.map (fun f => (f.type, f.offset)) = fs ∧ P.underlying T = some (.struct gs) := by
  obtain ⟨d, h1, h2⟩ := tyOf_U h (by simp)
  cases d <;> simp only [td, reduceCtorEq, TD.struct.injEq] at h1
  exact ⟨_, h1, h2⟩

theorem evPick_ok {c a b : Operand} {o : Oper} (ho : o.op = .pick c a b) {v : Value} (hσ : ∀ x u, ρ x = some u → σ x = u) (h : evPick (ρ c) (ρ a) (ρ b) = some v) (w : World) : (execOp σ o).run P w = .ok (.value v) w := by
  unfold execOp
  simp only [ho]
  unfold evPick at h
  split at h
  · rename_i cb hc
    rw [hσ _ _ hc]
    split at h
    · rename_i x y hx hy
      cases h
      rw [hσ _ _ hx, hσ _ _ hy]
      cases cb <;> simp [asBool]
    · rename_i x y _ hx hy
      rw [hσ _ _ hx, hσ _ _ hy]
      cases cb <;> (cases h; simp [asBool])
    · cases h
  · cases h

theorem evEq_not {op : BinOp} {b : Bool} {v : Value} (h : evEq op b = some v) : (op = .eql ∧ v = .bool b) ∨ (op = .neq ∧ v = .bool (!b)) := by
  cases op <;> simp [evEq] at h <;> simp [h]

theorem run_eq_d {T : TypeId} {x y : Value} {b : Bool} {w : World} (h : ∀ d, (Op.equalIn (d + 1) T x y).run P w = .ok b w) : (Op.equal T x y).run P w = .ok b w := h 9999
theorem run_eq_bool {T : TypeId} (h : P.underlying T = some .bool) (a b : Bool) (w : World) : (Op.equal T (.bool a) (.bool b)).run P w = .ok (a == b) w := run_eq_d fun d => by simp [Op.equalIn, run_underlying h]
theorem run_eq_ptr {T e : TypeId} (h : P.underlying T = some (.pointer e)) (a : Option Addr) (w : World) : (Op.equal T (.pointer a) (.pointer none)).run P w = .ok a.isNone w := run_eq_d fun d => by cases a <;> simp [Op.equalIn, run_underlying h]
theorem run_eq_slice {T e : TypeId} (h : P.underlying T = some (.slice e)) (a : Option Addr) (m c k d : Nat) (w : World) : (Op.equal T (.slice a m c) (.slice none k d)).run P w = .ok a.isNone w := run_eq_d fun d => by cases a <;> simp [Op.equalIn, run_underlying h]
theorem evBin_ok {op : BinOp} {T T' : TypeId} {x y : Operand} {o : Oper} (ho : o.op = .binOp op T x y T') {v : Value} (hσ : ∀ x u, ρ x = some u → σ x = u) (h : evBin E.f op T (ρ x) (ρ y) = some v) (hsh : op ≠ .shl ∧ op ≠ .shr) (w : World) : (execOp σ o).run P w = .ok (.value v) w := by
  unfold execOp
  simp only [ho]
  refine run_v ?_
  unfold evBin at h
  split at h
  · rename_i k a hx
    split at h
    · rename_i k' b hy
      split at h
      · rename_i hk _
        subst hk
        rw [hσ _ _ hx, hσ _ _ hy]
        simp [eqGuard_ok, evInt_ok h]
      · cases h
    · cases h
  · rename_i a hx
    split at h
    · rename_i b hy
      rw [hσ _ _ hx, hσ _ _ hy]
      cases op <;> simp [evStr] at h <;> subst h <;> simp [eqGuard, binOp, Op.stringOp]
    · cases h
  · rename_i a hx
    split at h
    · rename_i _ b hy ht
      rw [hσ _ _ hx, hσ _ _ hy]
      have hu := run_eq_bool (tyOf_bool ht) a b w
      rcases evEq_not h with ⟨rfl, rfl⟩ | ⟨rfl, rfl⟩ <;> simp [eqGuard, binOp, hu]
    · cases h
  · rename_i a hx
    split at h
    · rename_i e hy ht
      rw [hσ _ _ hx, hσ _ _ hy]
      have hu := run_eq_ptr (tyOf_pointer ht) a w
      rcases evEq_not h with ⟨rfl, rfl⟩ | ⟨rfl, rfl⟩ <;> simp [eqGuard, binOp, hu]
    · cases h
  · rename_i a m c hx
    split at h
    · rename_i k d e hy ht
      rw [hσ _ _ hx, hσ _ _ hy]
      have hu := run_eq_slice (tyOf_slice ht) a m c k d w
      rcases evEq_not h with ⟨rfl, rfl⟩ | ⟨rfl, rfl⟩ <;> simp [eqGuard, binOp, hu]
    · cases h
  · cases h
theorem evUn_ok {op : UnOp} {T : TypeId} {x : Operand} {o : Oper} (ho : o.op = .unOp op T x) {v : Value} (hσ : ∀ x u, ρ x = some u → σ x = u) (h : evUn op (ρ x) = some v) (w : World) : (execOp σ o).run P w = .ok (.value v) w := by
  unfold execOp
  simp only [ho]
  refine run_v ?_
  unfold evUn at h
  split at h
  · split at h
    · rename_i b hx; cases h; simp [hσ _ _ hx, Op.unary]
    · cases h
  · split at h
    · rename_i k m hx; cases h; simp [hσ _ _ hx, Op.unary, Op.intArith]
    · cases h
  · cases h
theorem evNil_ok {x : Operand} {o : Oper} (ho : o.op = .nilCheck x) {v : Value} (hσ : ∀ x u, ρ x = some u → σ x = u) (h : evNil (ρ x) = some v) (w : World) : (execOp σ o).run P w = .ok (.value v) w := by
  unfold execOp
  simp only [ho]
  unfold evNil at h
  split at h
  · rename_i a hx; cases h; simp [hσ _ _ hx]
  · rename_i g a b hx; cases h; simp [hσ _ _ hx]
  · cases h
theorem evShl_ok {T T' : TypeId} {x y : Operand} {o : Oper} (ho : o.op = .binOp .shl T x y T') {v : Value} (hσ : ∀ x u, ρ x = some u → σ x = u) (h : evShl (ρ x) (ρ y) = some v) (w : World) : (execOp σ o).run P w = .ok (.value v) w := by
  unfold execOp
  simp only [ho]
  refine run_v ?_
  unfold evShl at h
  split at h
  · rename_i k a k' b hx hy
    cases h
    have hb : ¬ (Int.ofNat b < 0) := by simp
    have hb' : ¬ ((b : Int) < 0) := by omega
    simp [hσ _ _ hx, hσ _ _ hy, eqGuard, binOp, Op.shift, hb']
  · cases h
theorem evShr_ok {T T' : TypeId} {x y : Operand} {o : Oper} (ho : o.op = .binOp .shr T x y T') {v : Value} (hσ : ∀ x u, ρ x = some u → σ x = u) (h : evShr (ρ x) (ρ y) = some v) (w : World) : (execOp σ o).run P w = .ok (.value v) w := by
  unfold execOp
  simp only [ho]
  refine run_v ?_
  unfold evShr at h
  split at h
  · rename_i k a k' b hx hy
    cases h
    have hb' : ¬ ((b : Int) < 0) := by omega
    simp [hσ _ _ hx, hσ _ _ hy, eqGuard, binOp, Op.shift, hb']
  · cases h
theorem evConv_ok {S T : TypeId} {x : Operand} {o : Oper} (ho : o.op = .convert S T x) {v : Value} (hσ : ∀ x u, ρ x = some u → σ x = u) (h : evConv E.f S T (ρ x) = some v) (w : World) : (execOp σ o).run P w = .ok (.value v) w := by
  unfold execOp
  simp only [ho]
  refine run_v ?_
  unfold evConv at h
  split at h
  · cases h
  · rename_i i hi
    obtain ⟨_, _, _, hS⟩ := E.und hi
    split at h
    · rename_i k m hx
      split at h
      · rename_i k' hT
        cases h
        have hu := run_underlying (tyOf_int hT) w
        rw [hσ _ _ hx]
        unfold convert
        simp [hS, hu, Conv.intToInt]
      · cases h
    · rename_i s hx
      split at h
      · rename_i hT
        cases h
        have hu := run_underlying (tyOf_string hT) w
        rw [hσ _ _ hx]
        unfold convert
        simp [hS, hu]
      · cases h
    · cases h
theorem evFieldAddr_ok {T : TypeId} {x : Operand} {j : Nat} {o : Oper} (ho : o.op = .fieldAddr T x j) {v : Value} (hσ : ∀ x u, ρ x = some u → σ x = u) (h : evFieldAddr E.f T (ρ x) j = some v) (w : World) : (execOp σ o).run P w = .ok (.value v) w := by
  unfold execOp
  simp only [ho]
  refine run_v ?_
  unfold evFieldAddr at h
  split at h
  · rename_i a hx
    split at h
    · rename_i fs hT
      obtain ⟨gs, hgs, hU⟩ := tyOf_struct hT
      have hu := run_underlying hU w
      split at h
      · rename_i fd hfd
        obtain ⟨gd, hgd, rfl⟩ : ∃ gd, gs[j]? = some gd ∧ (gd.type, gd.offset) = fd := by
          rw [← hgs] at hfd
          simpa using hfd
        split at h
        · rename_i i hi
          split at h
          · cases h
          · rename_i m hm
            cases h
            have hsz := E.size hi w
            simp [hσ _ _ hx, Instr.fieldAt, hu, hgd, Instr.sureAddr, fieldPlace, hsz, hm]
        · cases h
      · cases h
    · cases h
  · cases h
theorem isAgg_run {T : TypeId} {i : TyI} (hi : E.f T = some i) (w : World) : (isAgg T).run P w = .ok (isAggD i.desc) w := by
  obtain ⟨d, h1, _, h3⟩ := E.und hi
  rw [← h1]
  unfold isAgg
  simp only [Sem.run_bind, h3, Result.andThen_ok]
  cases d <;> simp [td, isAggD]
theorem run_part {T : TypeId} {i : TyI} (hi : E.f T = some i) {cs : Array Value} {off : Nat} {v : Value} (h : evPart E.f T cs.toList off = some v) (w : World) : (part T cs off).run P w = .ok v w := by
  have hu := isAgg_run hi w
  have hs := E.size hi w
  unfold evPart at h
  simp only [hi] at h
  unfold part
  have e : (List.take i.size (List.drop off cs.toList)).toArray = cs.extract off (off + i.size) := by
    apply Array.ext'
    simp [List.extract_eq_take_drop]
  cases ha : isAggD i.desc
  · simp only [ha] at h hu
    have h' : cs[off]? = some v := by simpa using h
    simp [hu, h']
  · simp only [ha] at h hu
    cases h
    simp [hu, hs, e]
theorem evField_ok {T : TypeId} {x : Operand} {j : Nat} {o : Oper} (ho : o.op = .field T x j) {v : Value} (hσ : ∀ x u, ρ x = some u → σ x = u) (h : evField E.f T (ρ x) j = some v) (w : World) : (execOp σ o).run P w = .ok (.value v) w := by
  unfold execOp
  simp only [ho]
  refine run_v ?_
  unfold evField at h
  split at h
  · rename_i cs hx
    split at h
    · rename_i fs hT
      obtain ⟨gs, hgs, hU⟩ := tyOf_struct hT
      have hu := run_underlying hU w
      split at h
      · rename_i fd hfd
        obtain ⟨gd, hgd, rfl⟩ : ∃ gd, gs[j]? = some gd ∧ (gd.type, gd.offset) = fd := by
          rw [← hgs] at hfd
          simpa using hfd
        cases hi : E.f gd.type with
        | none => simp [evPart, hi] at h
        | some i => simp [hσ _ _ hx, Instr.field, hu, hgd, asAgg, run_part hi h w]
      · cases h
    · cases h
  · cases h
theorem evExtract_ok {x : Operand} {j : Nat} {o : Oper} (ho : o.op = .extract x j) {v : Value} (hσ : ∀ x u, ρ x = some u → σ x = u) (h : evExtract (ρ x) j = some v) (w : World) : (execOp σ o).run P w = .ok (.value v) w := by
  unfold execOp
  simp only [ho]
  refine run_v ?_
  unfold evExtract at h
  split at h
  · rename_i vs hx
    have h' : vs[j]? = some v := by simpa using h
    simp [hσ _ _ hx, Instr.extract, h']
  · cases h
theorem evFace_ok {T : TypeId} {x : Operand} {o : Oper} (ho : o.op = .makeInterface T x) {v : Value} (hσ : ∀ x u, ρ x = some u → σ x = u) (h : evFace E.f T (ρ x) = some v) (w : World) : (execOp σ o).run P w = .ok (.value v) w := by
  unfold execOp
  simp only [ho]
  refine run_v ?_
  unfold evFace at h
  split at h
  · cases h
  · rename_i i hi
    obtain ⟨d, h1, _, hu⟩ := E.und hi
    split at h
    · cases h
    · rename_i hd
      split at h
      · rename_i u hx
        cases h
        rw [hσ _ _ hx]
        unfold Instr.makeInterface
        simp only [Sem.run_bind, hu, Result.andThen_ok]
        cases d <;> first
          | (exfalso; exact hd h1.symm)
          | simp
      · cases h
theorem evCall_ok {b : Builtin} {c : Call} {o : Oper} (ho : o.op = .call c) (hc : c.callee = .builtin b) {v : Value} (hσ : ∀ x u, ρ x = some u → σ x = u) (h : evCall E.f ρ b c.args.toList c.argTypes.toList = some v) (w : World) : (execOp σ o).run P w = .ok (.value v) w := by
  obtain ⟨callee, args, ts⟩ := c
  simp only at hc h
  subst hc
  unfold execOp
  simp only [ho]
  unfold evCall at h
  split at h
  · rename_i x hx
    split at h
    · rename_i T hT
      have hx' : args = #[x] := by apply Array.ext'; simpa using hx
      have hT' : ts = #[T] := by apply Array.ext'; simpa using hT
      subst hx' hT'
      split at h
      · unfold evLen at h
        split at h
        · rename_i s hs
          split at h
          · rename_i ht
            cases h
            have hu := run_underlying (tyOf_string ht) w
            simp [resolve, invoke, builtin, hσ _ _ hs, Builtin.len_, hu, goInt]
          · cases h
        · rename_i A m c hs
          split at h
          · rename_i e ht
            cases h
            have hu := run_underlying (tyOf_slice ht) w
            simp [resolve, invoke, builtin, hσ _ _ hs, Builtin.len_, hu, goInt]
          · cases h
        · cases h
      · unfold evCap at h
        split at h
        · rename_i A m c hs
          split at h
          · rename_i e ht
            cases h
            have hu := run_underlying (tyOf_slice ht) w
            simp [resolve, invoke, builtin, hσ _ _ hs, Builtin.cap_, hu, goInt]
          · cases h
        · cases h
      · cases h
    · cases h
  · rename_i x y hx
    have hx' : args = #[x, y] := by apply Array.ext'; simpa using hx
    subst hx'
    split at h
    · unfold evMax at h
      split at h
      · rename_i k a k' b h1 h2
        cases h
        simp [resolve, invoke, builtin, hσ _ _ h1, hσ _ _ h2, Builtin.max_, Builtin.max2]
      · cases h
    · unfold evMin at h
      split at h
      · rename_i k a k' b h1 h2
        cases h
        simp [resolve, invoke, builtin, hσ _ _ h1, hσ _ _ h2, Builtin.min_, Builtin.min2]
      · cases h
    · cases h
  · cases h
theorem evOp_ok {o : Oper} {v : Value} (hσ : ∀ x u, ρ x = some u → σ x = u) (h : evOp E.f ρ o.op = some v) (w : World) : (execOp σ o).run P w = .ok (.value v) w := by
  cases ho : o.op <;> rw [ho] at h <;> simp only [evOp, reduceCtorEq] at h
  case move x => unfold execOp; simp [ho, hσ _ _ h]
  case assign x => unfold execOp; simp [ho, hσ _ _ h]
  case pick c a b => exact evPick_ok ho hσ h w
  case nilCheck x => exact evNil_ok ho hσ h w
  case unOp op T x => exact evUn_ok ho hσ h w
  case binOp op T x y T' =>
    split at h
    · exact evShl_ok ho hσ h w
    · exact evShr_ok ho hσ h w
    · rename_i h1 h2; exact evBin_ok ho hσ h ⟨fun e => h1 e, fun e => h2 e⟩ w
  case convert S T x => exact evConv_ok ho hσ h w
  case fieldAddr T x j => exact evFieldAddr_ok ho hσ h w
  case field T x j => exact evField_ok ho hσ h w
  case extract x j => exact evExtract_ok ho hσ h w
  case makeInterface T x => exact evFace_ok ho hσ h w
  case call c =>
    split at h
    · rename_i b hb; exact evCall_ok ho hb hσ h w
    · cases h
end
theorem evCall_congr {f : Nat → Option TyI} {ρ ρ' : Operand → Option Value} {b : Builtin} {args : List Operand} {ts : List TypeId} (h : ∀ x ∈ args, ρ x = ρ' x) : evCall f ρ b args ts = evCall f ρ' b args ts := by
  unfold evCall
  split
  · simp only [h _ (List.mem_cons_self ..)]
  · rename_i x y
    simp only [h x (by simp), h y (by simp)]
  · rfl
theorem evOp_congr {f : Nat → Option TyI} {ρ ρ' : Operand → Option Value} {op : Op} (h : ∀ x ∈ op.operands.toList, ρ x = ρ' x) : evOp f ρ op = evOp f ρ' op := by
  cases op <;> simp only [Op.operands, List.mem_cons, List.not_mem_nil, or_false, forall_eq_or_imp, forall_eq] at h <;> simp only [evOp]
  case call c =>
    split
    · rename_i b hb
      exact evCall_congr fun x hx => h x (by simp [Call.operands, hb]; simpa using hx)
    · rfl
  all_goals simp_all
def tyLook : List (Nat × TyI) → Nat → Option TyI
  | [], _ => none
  | (T, i) :: l, U => match Nat.beq T U with
    | true => some i
    | false => tyLook l U
theorem tyLook_ok {P : Program} : ∀ {l : List (Nat × TyI)}, (∀ r ∈ l, r.2.Good P r.1) → ∀ T i, tyLook l T = some i → i.Good P T
  | (U, j) :: l, h, T, i, hl => by
    unfold tyLook at hl
    split at hl
    · rename_i hb
      cases hl
      have := Nat.eq_of_beq_eq_true hb
      subst this
      exact h _ (List.mem_cons_self ..)
    · exact tyLook_ok (fun r hr => h r (List.mem_cons_of_mem _ hr)) T i hl
end Go.Proofs.YtmochicneilhhaaGreat
