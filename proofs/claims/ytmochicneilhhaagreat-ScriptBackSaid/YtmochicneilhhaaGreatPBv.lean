/- More rules: numbers without sign, as rows of binary digits. -/
import Derived.Test.YtmochicneilhhaaGreatPRf
import Derived.Laws.BitsAllLaws
import Derived.Laws.BitsLemmas
import Derived.Laws.Bits64
namespace Go.Proofs.YtmochicneilhhaaGreat
open Go.RowKit
/-- a kind of numbers without sign, of so many digits -/
structure UK (k : IntKind) (w : Nat) : Prop where
  bits : k.bits = w
  wrap : ∀ n : Int, k.wrap n = n % ((2 ^ w : Nat) : Int)
theorem uk8 : UK .u8 8 := ⟨rfl, fun n => IntKind.wrap_u8 n⟩
theorem uk16 : UK .u16 16 := ⟨rfl, fun n => IntKind.wrap_u16 n⟩
theorem uk32 : UK .u32 32 := ⟨rfl, fun n => IntKind.wrap_u32 n⟩
theorem uk64 : UK .u64 64 := ⟨rfl, fun n => IntKind.wrap_u64 n⟩
theorem UK.of {k : IntKind} {w : Nat} (u : UK k w) (x : BitVec w) : k.wrap (x.toNat : Int) = (x.toNat : Int) := by
  rw [u.wrap, ← Int.natCast_emod, Nat.mod_eq_of_lt x.isLt]
theorem UK.int {k : IntKind} {w : Nat} (u : UK k w) (n : Int) : k.wrap n = ((BitVec.ofInt w n).toNat : Int) := by
  rw [u.wrap, BitVec.toNat_ofInt, Int.toNat_of_nonneg (Int.emod_nonneg _ (by have := Nat.two_pow_pos w; omega))]
theorem ofInt_nat (w n : Nat) : BitVec.ofInt w (n : Int) = BitVec.ofNat w n := by
  apply BitVec.eq_of_toNat_eq
  rw [BitVec.toNat_ofInt, BitVec.toNat_ofNat, ← Int.natCast_emod, Int.toNat_natCast]
theorem ofInt_toNat {w : Nat} (x : BitVec w) : BitVec.ofInt w (x.toNat : Int) = x := by rw [ofInt_nat, BitVec.ofNat_toNat, BitVec.setWidth_eq]
section
variable {P : Program} {n : Nat} {M : Me} {Q : Post} {t : Fr} {L : List Ck} {k : IntKind} {w : Nat} {p c1 c2 : Option Bool} {dst : Option Tmp} {T T' S : TypeId} {X Y : Operand} {ty : TypeId} {pos : String} {after : Array Edge} {guard : Option (Nat × Bool)} {a b : Int}
theorem yl_bits {op : BinOp} {f : ∀ {w}, BitVec w → BitVec w → BitVec w} (ho : ∀ (k : IntKind) (a b : Int), evInt op k a b = some (.int k (k.wrap ((f (BitVec.ofInt k.bits a) (BitVec.ofInt k.bits b)).toNat : Int)))) (u : UK k w) (x y : BitVec w) (hx : ov t X = some (c1, .int k a)) (hy : ov t Y = some (c2, .int k b)) (ha : a = x.toNat) (hb : b = y.toNat)
    (h1 : cb p = true → cb c1 = true) (h2 : cb p = true → cb c2 = true) : Yl P n t L p ⟨dst, .binOp op T X Y T', ty, pos, after, guard⟩ (.int k (f x y).toNat) := fun hp M a' w' hf _ => by
  unfold execOp
  refine run_v ?_
  rw [hf.ov hx (h1 hp), hf.ov hy (h2 hp)]
  obtain rfl := u.bits
  have := ho k a b
  rw [ha, hb, ofInt_toNat, ofInt_toNat, u.of] at this
  subst ha hb
  simp [eqGuard_ok, evInt_ok this]
theorem yl_xor (u : UK k w) (x y : BitVec w) (hx : ov t X = some (c1, .int k a)) (hy : ov t Y = some (c2, .int k b)) (ha : a = x.toNat) (hb : b = y.toNat) (h1 : cb p = true → cb c1 = true) (h2 : cb p = true → cb c2 = true) :
    Yl P n t L p ⟨dst, .binOp .xor T X Y T', ty, pos, after, guard⟩ (.int k (x ^^^ y).toNat) := yl_bits (f := fun x y => x ^^^ y) (fun _ _ _ => rfl) u x y hx hy ha hb h1 h2
theorem yl_band (u : UK k w) (x y : BitVec w) (hx : ov t X = some (c1, .int k a)) (hy : ov t Y = some (c2, .int k b)) (ha : a = x.toNat) (hb : b = y.toNat) (h1 : cb p = true → cb c1 = true) (h2 : cb p = true → cb c2 = true) :
    Yl P n t L p ⟨dst, .binOp .and T X Y T', ty, pos, after, guard⟩ (.int k (x &&& y).toNat) := yl_bits (f := fun x y => x &&& y) (fun _ _ _ => rfl) u x y hx hy ha hb h1 h2
theorem yl_bor (u : UK k w) (x y : BitVec w) (hx : ov t X = some (c1, .int k a)) (hy : ov t Y = some (c2, .int k b)) (ha : a = x.toNat) (hb : b = y.toNat) (h1 : cb p = true → cb c1 = true) (h2 : cb p = true → cb c2 = true) :
    Yl P n t L p ⟨dst, .binOp .or T X Y T', ty, pos, after, guard⟩ (.int k (x ||| y).toNat) := yl_bits (f := fun x y => x ||| y) (fun _ _ _ => rfl) u x y hx hy ha hb h1 h2
theorem yl_arithB {op : BinOp} {e : Int} (z : BitVec w) (u : UK k w) (hx : ov t X = some (c1, .int k a)) (hy : ov t Y = some (c2, .int k b)) (ho : evInt op k a b = some (.int k (k.wrap e))) (he : BitVec.ofInt w e = z)
    (h1 : cb p = true → cb c1 = true) (h2 : cb p = true → cb c2 = true) : Yl P n t L p ⟨dst, .binOp op T X Y T', ty, pos, after, guard⟩ (.int k z.toNat) := fun hp M a' w' hf _ => by
  unfold execOp
  refine run_v ?_
  rw [hf.ov hx (h1 hp), hf.ov hy (h2 hp)]
  rw [u.int, he] at ho
  simp [eqGuard_ok, evInt_ok ho]
theorem yl_badd (u : UK k w) (x y : BitVec w) (hx : ov t X = some (c1, .int k a)) (hy : ov t Y = some (c2, .int k b)) (ha : a = x.toNat) (hb : b = y.toNat) (h1 : cb p = true → cb c1 = true) (h2 : cb p = true → cb c2 = true) :
    Yl P n t L p ⟨dst, .binOp .add T X Y T', ty, pos, after, guard⟩ (.int k (x + y).toNat) := yl_arithB (e := a + b) _ u hx hy rfl (by rw [ha, hb, BitVec.ofInt_add, ofInt_toNat, ofInt_toNat]) h1 h2
theorem yl_bsub (u : UK k w) (x y : BitVec w) (hx : ov t X = some (c1, .int k a)) (hy : ov t Y = some (c2, .int k b)) (ha : a = x.toNat) (hb : b = y.toNat) (h1 : cb p = true → cb c1 = true) (h2 : cb p = true → cb c2 = true) :
    Yl P n t L p ⟨dst, .binOp .sub T X Y T', ty, pos, after, guard⟩ (.int k (x - y).toNat) := yl_arithB (e := a - b) _ u hx hy rfl (by
      rw [ha, hb, Int.sub_eq_add_neg, BitVec.ofInt_add, BitVec.ofInt_neg, ofInt_toNat, ofInt_toNat, BitVec.sub_eq_add_neg]) h1 h2
theorem yl_bquo (u : UK k w) (x y : BitVec w) (hx : ov t X = some (c1, .int k a)) (hy : ov t Y = some (c2, .int k b)) (ha : a = x.toNat) (hb : b = y.toNat) (h1 : cb p = true → cb c1 = true) (h2 : cb p = true → cb c2 = true) (h0 : cb p = true → y.toNat ≠ 0) :
    Yl P n t L p ⟨dst, .binOp .quo T X Y T', ty, pos, after, guard⟩ (.int k (x / y).toNat) := by
  refine yl_eq (yl_quo hx hy h1 h2 fun hp => by have := h0 hp; omega) fun hp => ?_
  rw [ha, hb, Int.tdiv_eq_ediv_of_nonneg (by omega), ← Int.natCast_ediv, ← BitVec.toNat_udiv, u.of]
theorem yl_brem (_u : UK k w) (x y : BitVec w) (hx : ov t X = some (c1, .int k a)) (hy : ov t Y = some (c2, .int k b)) (ha : a = x.toNat) (hb : b = y.toNat) (h1 : cb p = true → cb c1 = true) (h2 : cb p = true → cb c2 = true) (h0 : cb p = true → y.toNat ≠ 0) :
    Yl P n t L p ⟨dst, .binOp .rem T X Y T', ty, pos, after, guard⟩ (.int k (x % y).toNat) := by
  refine yl_eq (yl_rem hx hy h1 h2 fun hp => by have := h0 hp; omega) fun hp => ?_
  rw [ha, hb, Int.tmod_eq_emod_of_nonneg (by omega), ← Int.natCast_emod, ← BitVec.toNat_umod]
theorem yl_shiftB {left : Bool} {κ : IntKind} (z : BitVec w) (q : Nat) (hx : ov t X = some (c1, .int k a)) (hy : ov t Y = some (c2, .int κ b)) (hb : b = q)
    (hz : (match left with | true => k.wrap (a * 2 ^ min q k.bits) | false => a.fdiv (2 ^ min q k.bits)) = (z.toNat : Int)) (h1 : cb p = true → cb c1 = true) (h2 : cb p = true → cb c2 = true) :
    Yl P n t L p ⟨dst, .binOp (match left with | true => .shl | false => .shr) T X Y T', ty, pos, after, guard⟩ (.int k z.toNat) := fun hp M a' w' hf _ => by
  unfold execOp
  refine run_v ?_
  rw [hf.ov hx (h1 hp), hf.ov hy (h2 hp)]
  subst hb
  have hb' : ¬ ((q : Int) < 0) := by omega
  cases left <;> simp only [] at hz ⊢ <;> simp [eqGuard, binOp, Op.shift, hb', ← hz]
theorem yl_bshr {κ : IntKind} (u : UK k w) (x : BitVec w) (q : Nat) (hx : ov t X = some (c1, .int k a)) (hy : ov t Y = some (c2, .int κ b)) (ha : a = x.toNat) (hb : b = q) (h1 : cb p = true → cb c1 = true) (h2 : cb p = true → cb c2 = true) :
    Yl P n t L p ⟨dst, .binOp .shr T X Y T', ty, pos, after, guard⟩ (.int k (x >>> q).toNat) := yl_shiftB (left := false) _ q hx hy hb (by
      show a.fdiv (2 ^ min q k.bits) = _
      rw [ha, u.bits, BitVec.toNat_ushiftRight, Nat.shiftRight_eq_div_pow, Int.fdiv_eq_ediv_of_nonneg _ (by have := Nat.two_pow_pos (min q w); exact_mod_cast Nat.zero_le _)]
      rcases Nat.lt_or_ge q w with h | h
      · rw [Nat.min_eq_left (by omega)]
        exact_mod_cast rfl
      · rw [Nat.min_eq_right h]
        have h3 : x.toNat / 2 ^ q = 0 := Nat.div_eq_of_lt (Nat.lt_of_lt_of_le x.isLt (Nat.pow_le_pow_right (by decide) h))
        have h4 : x.toNat / 2 ^ w = 0 := Nat.div_eq_of_lt x.isLt
        rw [h3]
        exact_mod_cast h4) h1 h2
theorem yl_bshl {κ : IntKind} (u : UK k w) (x : BitVec w) (q : Nat) (hx : ov t X = some (c1, .int k a)) (hy : ov t Y = some (c2, .int κ b)) (ha : a = x.toNat) (hb : b = q) (h1 : cb p = true → cb c1 = true) (h2 : cb p = true → cb c2 = true) :
    Yl P n t L p ⟨dst, .binOp .shl T X Y T', ty, pos, after, guard⟩ (.int k (x <<< q).toNat) := yl_shiftB (left := true) _ q hx hy hb (by
      show k.wrap (a * 2 ^ min q k.bits) = _
      rw [ha, u.bits, u.wrap, BitVec.toNat_shiftLeft, Nat.shiftLeft_eq]
      rcases Nat.lt_or_ge q w with h | h
      · rw [Nat.min_eq_left (by omega)]
        exact_mod_cast rfl
      · rw [Nat.min_eq_right h]
        have h3 : x.toNat * 2 ^ q % 2 ^ w = 0 := by
          rw [show q = w + (q - w) by omega, Nat.pow_add, Nat.mul_left_comm, Nat.mul_mod_right]
        have h4 : x.toNat * 2 ^ w % 2 ^ w = 0 := Nat.mul_mod_left ..
        rw [h3]
        exact_mod_cast h4) h1 h2
/-- a number of another kind, without sign -/
theorem yl_cv {E : Env P} {k' : IntKind} {w' : Nat} {i : TyI} (u : UK k' w') (x : BitVec w) (hx : ov t X = some (c1, .int k a)) (ha : a = x.toNat) (hS : E.f S = some i) (hT : tyOf E.f T = .int k') (h1 : cb p = true → cb c1 = true) :
    Yl P n t L p ⟨dst, .convert S T X, ty, pos, after, guard⟩ (.int k' (x.setWidth w').toNat) := fun hp M a' w0 hf _ => by
  have hz : k'.wrap a = ((x.setWidth w').toNat : Int) := by
    rw [ha, u.wrap, BitVec.toNat_setWidth]
    exact_mod_cast rfl
  obtain ⟨_, _, _, hS'⟩ := E.und hS
  have hu := run_underlying (tyOf_int hT) w0
  unfold execOp
  refine run_v ?_
  rw [hf.ov hx (h1 hp)]
  unfold convert
  simp [hS', hu, Conv.intToInt, hz]
/-- any number, as one without sign -/
theorem yl_ci {E : Env P} {k' : IntKind} {w' : Nat} {i : TyI} (u : UK k' w') (hx : ov t X = some (c1, .int k a)) (hS : E.f S = some i) (hT : tyOf E.f T = .int k') (h1 : cb p = true → cb c1 = true) :
    Yl P n t L p ⟨dst, .convert S T X, ty, pos, after, guard⟩ (.int k' (BitVec.ofInt w' a).toNat) := fun hp M a' w0 hf _ => by
  obtain ⟨_, _, _, hS'⟩ := E.und hS
  have hu := run_underlying (tyOf_int hT) w0
  unfold execOp
  refine run_v ?_
  rw [hf.ov hx (h1 hp)]
  unfold convert
  simp [hS', hu, Conv.intToInt, u.int]
/-- 64 digits, with a sign -/
theorem yl_cs {E : Env P} {i : TyI} (x : BitVec 64) (hx : ov t X = some (c1, .int k a)) (ha : a = x.toNat) (hS : E.f S = some i) (hT : tyOf E.f T = .int .i64) (h1 : cb p = true → cb c1 = true) :
    Yl P n t L p ⟨dst, .convert S T X, ty, pos, after, guard⟩ (.int .i64 x.toInt) := fun hp M a' w0 hf _ => by
  obtain ⟨_, _, _, hS'⟩ := E.und hS
  have hu := run_underlying (tyOf_int hT) w0
  have hz : IntKind.i64.wrap a = x.toInt := by
    rw [ha, IntKind.wrap_i64, BitVec.toInt_eq_toNat_cond]
    have := x.isLt
    split <;> omega
  unfold execOp
  refine run_v ?_
  rw [hf.ov hx (h1 hp)]
  unfold convert
  simp [hS', hu, Conv.intToInt, hz]
/-- a number that fits, as one of 64 digits with a sign -/
theorem yl_cn {E : Env P} {i : TyI} (hx : ov t X = some (c1, .int k a)) (hS : E.f S = some i) (hT : tyOf E.f T = .int .i64) (h1 : cb p = true → cb c1 = true) (hb : cb p = true → -9223372036854775808 ≤ a ∧ a < 9223372036854775808) :
    Yl P n t L p ⟨dst, .convert S T X, ty, pos, after, guard⟩ (.int .i64 a) := fun hp M a' w0 hf _ => by
  obtain ⟨_, _, _, hS'⟩ := E.und hS
  have hu := run_underlying (tyOf_int hT) w0
  have hz : IntKind.i64.wrap a = a := by
    have := hb hp
    rw [IntKind.wrap_i64]
    omega
  unfold execOp
  refine run_v ?_
  rw [hf.ov hx (h1 hp)]
  unfold convert
  simp [hS', hu, Conv.intToInt, hz]
/-- two numbers compared -/
theorem yl_beq (x y : BitVec w) (hx : ov t X = some (c1, .int k a)) (hy : ov t Y = some (c2, .int k b)) (ha : a = x.toNat) (hb : b = y.toNat) (h1 : cb p = true → cb c1 = true) (h2 : cb p = true → cb c2 = true) :
    Yl P n t L p ⟨dst, .binOp .eql T X Y T', ty, pos, after, guard⟩ (.bool (x == y)) := fun hp M a' w' hf _ => by
  have : (a == b) = (x == y) := by
    rw [ha, hb, Bool.eq_iff_iff]
    simp only [beq_iff_eq]
    exact ⟨fun h => BitVec.eq_of_toNat_eq (by omega), fun h => by rw [h]⟩
  unfold execOp
  refine run_v ?_
  rw [hf.ov hx (h1 hp), hf.ov hy (h2 hp)]
  have he := evInt_ok (P := P) (op := .eql) (k := k) (a := a) (b := b) rfl T w'
  rw [this] at he
  simp [eqGuard_ok, he]
theorem yl_bne (x y : BitVec w) (hx : ov t X = some (c1, .int k a)) (hy : ov t Y = some (c2, .int k b)) (ha : a = x.toNat) (hb : b = y.toNat) (h1 : cb p = true → cb c1 = true) (h2 : cb p = true → cb c2 = true) :
    Yl P n t L p ⟨dst, .binOp .neq T X Y T', ty, pos, after, guard⟩ (.bool (x != y)) := fun hp M a' w' hf _ => by
  have : (a != b) = (x != y) := by
    rw [ha, hb, Bool.eq_iff_iff]
    simp only [bne_iff_ne, ne_eq]
    exact ⟨fun h he => h (by rw [he]), fun h he => h (BitVec.eq_of_toNat_eq (by omega))⟩
  unfold execOp
  refine run_v ?_
  rw [hf.ov hx (h1 hp), hf.ov hy (h2 hp)]
  have he := evInt_ok (P := P) (op := .neq) (k := k) (a := a) (b := b) rfl T w'
  rw [this] at he
  simp [eqGuard_ok, he]
end
end Go.Proofs.YtmochicneilhhaaGreat
