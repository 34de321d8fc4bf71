/- Rows of rows of bytes, as they are read. Rows cut. packed numbers, plainly: bytes, the highest first. From a walk's contract to what a law's frame asks for. What the statements share: Pick, SameBytes, Own, Spoil. -/
import Derived.Test.YtmochicneilhhaaGreatPAp
import Derived.Test.YtmochicneilhhaaGreatPBv
import Derived.Test.YtmochicneilhhaaGreatPEnv
import Derived.Test.YtmochicneilhhaaGreatPGo
import Derived.Test.YtmochicneilhhaaGreatPSf
import Derived.Test.YtmochicneilhhaaGreatPSl
import Derived.Test.YtmochicneilhhaaGreatPSt
namespace Go.Proofs.YtmochicneilhhaaGreat
open Go.RowKit
/-- a slice of bytes: its value, and what it holds -/
structure Rw where
  A : Option Addr
  n : Nat
  c : Nat
  l : List B8
def Rw.val (r : Rw) : Value := .slice r.A r.n r.c
def rwv (rs : List Rw) : List Value := rs.map Rw.val
def Rw.ok (w : World) (r : Rw) : Prop := Row w w.heap.size 1 r.A r.n (bvs r.l) ∧ r.n ≤ r.c ∧ r.c ≤ 9223372036854775807
def rowsP (A : Option Addr) (n : Nat) (rs : List Rw) (w : World) : Prop := Row w w.heap.size 1 A n (rwv rs) ∧ ∀ r ∈ rs, r.ok w
def rowsOn (A : Option Addr) (n : Nat) (rs : List Rw) (g : Nat) : Prop := (n ≠ 0 ∧ A.map (·.block) = some g) ∨ ∃ r ∈ rs, r.n ≠ 0 ∧ r.A.map (·.block) = some g
theorem rows_stable (A : Option Addr) (n : Nat) (rs : List Rw) : Stable (rowsOn A n rs) (rowsP A n rs) := fun w h => by
  refine ⟨fun b hb => ?_, fun w' hsz hk => ⟨Row.stay h.1 hsz fun b hb => hk b (.inl hb), fun r hr => ?_⟩⟩
  · rcases hb with hb | ⟨r, hr, hb⟩
    · exact Row.lt_of h.1 hb.1 hb.2
    · exact Row.lt_of (h.2 r hr).1 hb.1 hb.2
  · obtain ⟨h1, h2⟩ := h.2 r hr
    exact ⟨Row.stay h1 hsz fun b hb => hk b (.inr ⟨r, hr, hb⟩), h2⟩
abbrev Ck.rows (A : Option Addr) (n : Nat) (rs : List Rw) : Ck := .deep (rowsOn A n rs) (rowsP A n rs) (rows_stable A n rs)
section
variable {L : List Ck}
theorem rwv_len (rs : List Rw) : (rwv rs).length = rs.length := by simp [rwv]
theorem rwv_get {rs : List Rw} {i : Nat} {r : Rw} (h : rs[i]? = some r) : (rwv rs)[mulI i 1]? = some (.slice r.A r.n r.c) := by simp [rwv, mulI, h, Rw.val]
/-- the row of slices itself -/
theorem Gives.rows (k : Nat) {A : Option Addr} {n : Nat} {rs : List Rw} (hk : L[k]? = some (.rows A n rs)) : Gives L (.ro A n 1 (rwv rs) :: L) := Gives.add k hk rfl rfl fun _ h => ⟨h.1, fun _ hb => .inl hb⟩
/-- one of the slices -/
theorem Gives.rowsAt (k : Nat) {A : Option Addr} {n i : Nat} {rs : List Rw} {r : Rw} (hk : L[k]? = some (.rows A n rs)) (hi : rs[i]? = some r) : Gives L (.ro r.A r.n 1 (bvs r.l) :: L) :=
  Gives.add k hk rfl rfl fun _ h => ⟨(h.2 r (List.mem_of_getElem? hi)).1, fun _ hb => .inr ⟨r, List.mem_of_getElem? hi, hb⟩⟩
/-- what is plain of a slice of bytes -/
theorem rows_ok {M : Me} {w : World} (k : Nat) {A : Option Addr} {n i : Nat} {rs : List Rw} {r : Rw} (hk : L[k]? = some (.rows A n rs)) (hi : rs[i]? = some r) (hm : Mem M L w) : r.l.length = r.n ∧ r.n ≤ r.c ∧ r.c ≤ 9223372036854775807 := by
  have h : rowsP A n rs w := hm.get hk
  obtain ⟨h1, h2, h3⟩ := h.2 r (List.mem_of_getElem? hi)
  have := h1.1
  rw [bvs_len] at this
  omega
theorem rows_in {w : World} {Lin : List Ck} {A : Option Addr} {m : Nat} {rs : List Rw} (h : rowsP A m rs w) (hin : Mem ⟨w, []⟩ Lin w) (hro : Lin.all (fun c => !c.mut_) = true) : Mem ⟨w, []⟩ (.rows A m rs :: Lin) w := by
  refine ⟨hin.keep, fun c hc => ?_, fun c hc hm => ?_, List.Pairwise.cons (fun c hc hm => ?_) hin.sep⟩
  · rcases List.mem_cons.1 hc with rfl | hc
    · exact h
    · exact hin.all c hc
  · rcases List.mem_cons.1 hc with rfl | hc
    · cases hm
    · exact hin.out c hc hm
  · have := List.all_eq_true.1 hro c hc
    rcases hm with hm | hm
    · cases hm
    · rw [hm] at this; cases this
end
end Go.Proofs.YtmochicneilhhaaGreat
namespace Go.Proofs.YtmochicneilhhaaGreat
open Go.RowKit
/-- the first elements of a row -/
theorem Row.pre {w : World} {B sz m k : Nat} {A : Option Addr} {xs : List Value} (h : Row w B sz A m xs) (h2 : k ≤ m) : Row w B sz A k (xs.take (k * sz)) := by
  have h4 := Nat.mul_le_mul_right sz h2
  refine ⟨by rw [List.length_take, h.1]; omega, fun hn => ?_⟩
  obtain ⟨b, off, rfl, hb, hcell⟩ := h.2 (by omega)
  refine ⟨b, off, rfl, hb, fun j u hu => ?_⟩
  rw [List.getElem?_take] at hu
  split at hu
  · exact hcell _ u hu
  · cases hu
theorem Row.preb {w : World} {B m k : Nat} {A : Option Addr} {l : List B8} (h : Row w B 1 A m (bvs l)) (h2 : k ≤ m) : Row w B 1 A k (bvs (l.take k)) := by
  have := h.pre h2
  rwa [Nat.mul_one, show (bvs l).take k = bvs (l.take k) by simp [bvs, List.map_take]] at this
theorem Row.cutb {w : World} {B m c lo hi : Nat} {A : Option Addr} {l : List B8} (h : Row w B 1 A m (bvs l)) (h1 : lo ≤ hi) (h2 : hi ≤ m) (hc : m ≤ c) : Row w B 1 (cutA A c lo 1) (hi - lo) (bvs ((l.drop lo).take (hi - lo))) := by
  have := h.cut h1 h2 hc
  rwa [cutL_bvs] at this
theorem Row.sufb {w : World} {B m c lo : Nat} {A : Option Addr} {l : List B8} (h : Row w B 1 A m (bvs l)) (h1 : lo ≤ m) (hc : m ≤ c) : Row w B 1 (cutA A c lo 1) (m - lo) (bvs (l.drop lo)) := by
  have := h.cutb h1 (Nat.le_refl _) hc
  have hl := h.1
  rw [bvs_len] at hl
  rwa [List.take_of_length_le (by rw [List.length_drop]; omega)] at this
theorem Row.nil {w : World} {B sz : Nat} {A : Option Addr} : Row w B sz A 0 [] := ⟨by simp, fun h => absurd h (Nat.lt_irrefl 0)⟩
/-- a block of slices, as rows -/
theorem rows_blk {M : Me} {L : List Ck} {w : World} {b : Nat} {T : TypeId} {cs : List Value} (k : Nat) (rs : List Rw) (hm : Mem M L w) (hk : L[k]? = some (.blk b cs T)) (hcs : cs = rwv rs) (hr : ∀ r ∈ rs, r.ok w) : Mem ⟨w, []⟩ [.rows (some ⟨b, 0, none⟩) rs.length rs] w :=
  rows_in ⟨by rw [← hcs]; exact row_blk k hk (by rw [hcs, rwv_len, Nat.mul_one]) hm, hr⟩ (in_nil hm) rfl
theorem own_ro {M : Me} {L : List Ck} {w : World} {A : Option Addr} {m c : Nat} {T : TypeId} {sz : Nat} {xs : List Value} (k : Nat) (hm : Mem M L w) (hk : L[k]? = some (.own A m c T sz xs)) : Mem ⟨w, []⟩ [.ro A m sz xs] w := in_ro (row_own k hk hm) (in_nil hm) rfl
theorem Gives.cutb {L : List Ck} (k : Nat) {A : Option Addr} {m c lo : Nat} {l : List B8} (hk : L[k]? = some (.ro A m 1 (bvs l))) (h2 : lo ≤ m) (hc : m ≤ c) : Gives L (.ro (cutA A c lo 1) (m - lo) 1 (bvs (l.drop lo)) :: L) :=
  Gives.add k hk rfl rfl fun w hr => ⟨Row.sufb hr h2 hc, fun b hb => by
    obtain ⟨hq, hb⟩ := hb
    obtain ⟨b0, off, rfl, _, _⟩ := hr.2 (by omega)
    rw [cutA] at hb
    split at hb
    · exact ⟨by omega, hb⟩
    · rw [Option.map_some, add_at] at hb
      exact ⟨by omega, hb⟩⟩
/-- what a call leaves, otherwise told -/
theorem Fn.gives {P : Program} {f : FuncId} {args : List Value} {Lin : List Ck} {D : List Nat} {post post' : Value → List Ck → Prop} (h : Fn P f args Lin D post) (hp : ∀ v Lo, post v Lo → ∃ Lo', post' v Lo' ∧ Gives Lo Lo' ∧ Lo'.all Ck.mut_ = true) : Fn P f args Lin D post' :=
  ⟨h.1, fun w hm => (h.2 w hm).mono fun _ _ ⟨v, Lo, he, hq, hm', _⟩ => by
    obtain ⟨Lo', h1, h2, h3⟩ := hp v Lo hq
    exact ⟨v, Lo', he, h1, h2 _ _ hm', h3⟩⟩
end Go.Proofs.YtmochicneilhhaaGreat
namespace Go.Proofs.YtmochicneilhhaaGreat.pk
open Go.RowKit
/-- a number's last k bytes, the highest first -/
def be : Nat → BitVec 64 → List B8
  | 0, _ => []
  | k + 1, x => (x >>> (8 * k)).setWidth 8 :: be k x
theorem be_len : ∀ (k : Nat) (x : BitVec 64), (be k x).length = k
  | 0, _ => rfl
  | k + 1, x => by rw [be, List.length_cons, be_len k x]
theorem be_get : ∀ {k i : Nat} (x : BitVec 64), i < k → (be k x)[i]? = some ((x >>> (8 * (k - 1 - i))).setWidth 8)
  | 0, _, _, h => absurd h (Nat.not_lt_zero _)
  | k + 1, 0, x, _ => by rw [be]; simp
  | k + 1, i + 1, x, h => by
    rw [be, List.getElem?_cons_succ, be_get x (by omega)]
    congr 4
    omega
/-- bytes, as a number -/
def de (n : BitVec 64) (l : List B8) : BitVec 64 := l.foldl (fun n c => n <<< 8 ||| c.setWidth 64) n
theorem de_take {l : List B8} {i : Nat} {c : B8} (n : BitVec 64) (h : l[i]? = some c) : de n (l.take (i + 1)) = (de n (l.take i)) <<< 8 ||| c.setWidth 64 := by
  rw [List.take_add_one, h, de, List.foldl_append]
  rfl
theorem shl_mul (n : BitVec 64) : n <<< 8 = n * 256#64 := by
  apply BitVec.eq_of_toNat_eq
  rw [BitVec.toNat_shiftLeft, BitVec.toNat_mul, Nat.shiftLeft_eq]
  rfl
theorem add_or (n : BitVec 64) (c : B8) : n * 256#64 + c.setWidth 64 = n <<< 8 ||| c.setWidth 64 := by
  rw [← shl_mul, BitVec.add_eq_or_of_and_eq_zero]
  apply BitVec.eq_of_getLsbD_eq
  intro i hi
  simp only [BitVec.getLsbD_and, BitVec.getLsbD_shiftLeft, BitVec.getLsbD_setWidth, BitVec.getLsbD_zero]
  by_cases h : i < 8
  · simp [h]
  · rw [BitVec.getLsbD_of_ge c i (by omega)]
    simp
theorem quo256 (x : BitVec 64) (j : Nat) : (x >>> (8 * j)) / 256#64 = x >>> (8 * (j + 1)) := by
  apply BitVec.eq_of_toNat_eq
  rw [BitVec.toNat_udiv, BitVec.toNat_ushiftRight, BitVec.toNat_ushiftRight, Nat.shiftRight_eq_div_pow, Nat.shiftRight_eq_div_pow, Nat.mul_add, Nat.pow_add, ← Nat.div_div_eq_div_mul]
  rfl
theorem rem256 (x : BitVec 64) : (x % 256#64).setWidth 8 = x.setWidth 8 := by
  apply BitVec.eq_of_toNat_eq
  rw [BitVec.toNat_setWidth, BitVec.toNat_setWidth, BitVec.toNat_umod]
  show x.toNat % 256 % 256 = x.toNat % 256
  omega
theorem bvs_zero (k : Nat) : List.replicate k (Value.int .u8 0) = bvs (List.replicate k 0#8) := by simp [bvs, bv]
theorem setL_at {l : List B8} {i : Nat} (y : B8) (h : i < l.length) : setL (bvs l) (mulI i 1) [bv y] = bvs (l.set i y) := by
  have : ∀ (cs : List Value) (i : Nat) (v : Value), i < cs.length → setL cs i [v] = cs.set i v := by
    intro cs
    induction cs with
    | nil => intro i v h; exact absurd h (Nat.not_lt_zero _)
    | cons c cs ih =>
      intro i v h
      cases i with
      | zero => cases cs <;> simp [setL]
      | succ i => rw [setL, ih i v (by simpa using h), List.set_cons_succ]
  rw [mulI, this _ _ _ (by rw [bvs_len]; exact h), bvs, bvs, List.map_set]
/-- filled from the beginning -/
theorem fill_step {l : List B8} {i k : Nat} {y : B8} (hl : l.length = k) (h : l[i]? = some y) : setL (bvs (l.take i ++ List.replicate (k - i) 0#8)) (mulI i 1) [bv y] = bvs (l.take (i + 1) ++ List.replicate (k - (i + 1)) 0#8) := by
  have hi : i < l.length := (List.getElem?_eq_some_iff.1 h).1
  rw [setL_at _ (by simp; omega), List.set_append, if_neg (by simp; omega)]
  congr 1
  rw [List.take_add_one, h, List.length_take, Nat.min_eq_left (by omega), Nat.sub_self, show k - i = k - (i + 1) + 1 by omega, List.replicate_succ, List.set_cons_zero]
  simp
/-- filled from the end -/
theorem fill_back {l : List B8} {j k : Nat} {y : B8} (hl : l.length = k) (hj : j < k) (h : l[k - 1 - j]? = some y) : setL (bvs (List.replicate (k - j) 0#8 ++ l.drop (k - j))) (mulI (k - 1 - j) 1) [bv y] = bvs (List.replicate (k - (j + 1)) 0#8 ++ l.drop (k - (j + 1))) := by
  have hd : l.drop (k - (j + 1)) = y :: l.drop (k - j) := by
    have hlt : k - 1 - j < l.length := (List.getElem?_eq_some_iff.1 h).1
    have hy : l[k - 1 - j] = y := (List.getElem?_eq_some_iff.1 h).2
    rw [show k - (j + 1) = k - 1 - j by omega, List.drop_eq_getElem_cons hlt, hy, show k - 1 - j + 1 = k - j by omega]
  rw [setL_at _ (by simp; omega), List.set_append, if_pos (by simp; omega), hd]
  congr 1
  have e : List.replicate (k - j) 0#8 = List.replicate (k - 1 - j) 0#8 ++ [0#8] := by rw [show k - j = k - 1 - j + 1 by omega, List.replicate_succ']
  rw [e, List.set_append, if_neg (by simp), List.length_replicate, Nat.sub_self, List.set_cons_zero, List.append_assoc, show k - (j + 1) = k - 1 - j by omega]
  rfl
/-- all rows, one behind the other -/
def cat (rs : List Rw) : List B8 := rs.flatMap (·.l)
theorem cat_take {rs : List Rw} {i : Nat} {r : Rw} (h : rs[i]? = some r) : cat (rs.take (i + 1)) = cat (rs.take i) ++ r.l := by
  rw [List.take_add_one, h, cat, List.flatMap_append]
  simp [cat]
theorem cat_le (rs : List Rw) (i : Nat) : (cat (rs.take i)).length ≤ (cat rs).length := by
  have : cat rs = cat (rs.take i) ++ cat (rs.drop i) := by rw [cat, cat, cat, ← List.flatMap_append, List.take_append_drop]
  rw [this, List.length_append]
  omega
/-- bytes to a number, by natural numbers -/
def dn (n : Nat) (l : List B8) : Nat := l.foldl (fun n c => n * 256 + c.toNat) n
theorem de_dn (l : List B8) : ∀ n : BitVec 64, ∀ m : Nat, n.toNat = m % 2 ^ 64 → (de n l).toNat = dn m l % 2 ^ 64 := by
  induction l with
  | nil => intro n m h; exact h
  | cons c l ih =>
    intro n m h
    refine ih _ _ ?_
    show (n <<< 8 ||| c.setWidth 64).toNat = (m * 256 + c.toNat) % 2 ^ 64
    rw [← add_or, BitVec.toNat_add, BitVec.toNat_mul, BitVec.toNat_setWidth, h]
    have := c.isLt
    show (m % 2 ^ 64 * 256 % 2 ^ 64 + c.toNat % 2 ^ 64) % 2 ^ 64 = _
    omega
theorem dn_be : ∀ (k n : Nat) (x : BitVec 64), dn n (be k x) = n * 256 ^ k + x.toNat % 256 ^ k
  | 0, n, x => by simp [be, dn, Nat.mod_one]
  | k + 1, n, x => by
    show dn (n * 256 + ((x >>> (8 * k)).setWidth 8).toNat) (be k x) = _
    rw [dn_be k, BitVec.toNat_setWidth, BitVec.toNat_ushiftRight, Nat.shiftRight_eq_div_pow]
    have e : (2 : Nat) ^ (8 * k) = 256 ^ k := by rw [Nat.pow_mul]
    have e2 : (256 : Nat) ^ (k + 1) = 256 ^ k * 256 := Nat.pow_succ ..
    rw [e, e2]
    generalize hp : (256 : Nat) ^ k = p
    have hpos : 0 < p := by rw [← hp]; exact Nat.pow_pos (by decide)
    have h1 : x.toNat % (p * 256) = x.toNat % p + p * (x.toNat / p % 256) := Nat.mod_mul
    rw [h1, Nat.add_mul, Nat.mul_assoc, Nat.mul_comm 256 p, Nat.mul_comm (x.toNat / p % 2 ^ 8) p]
    show n * (p * 256) + p * (x.toNat / p % 256) + x.toNat % p = _
    omega
/-- what is packed is taken as it was -/
theorem de_be (k : Nat) (x : BitVec 64) (hk : k ≤ 8) (hx : x.toNat < 256 ^ k) : de 0#64 (be k x) = x := by
  apply BitVec.eq_of_toNat_eq
  rw [de_dn (be k x) 0#64 0 rfl, dn_be, Nat.zero_mul, Nat.zero_add, Nat.mod_eq_of_lt hx, Nat.mod_eq_of_lt x.isLt]
end Go.Proofs.YtmochicneilhhaaGreat.pk
namespace Go.Proofs.YtmochicneilhhaaGreat
open Go.RowKit
theorem mem0 (W : World) : Mem ⟨W, []⟩ [] W := ⟨Keep.refl W [], by simp, by simp, .nil⟩
/-- what a law's frame asks for -/
theorem Fn.yes {P : Program} {f : FuncId} {args : List Value} {Lin : List Ck} (h : Fn P f args Lin [] fun v Lo => v = .bool true ∧ Lo = []) (W : World) (hm : Mem ⟨W, []⟩ Lin W) :
    Calls P f args.toArray W fun e W' => e = .returned (.bool true) ∧ Below W.heap.size W W' := (h.2 W hm).mono fun _ _ ⟨_, _, he, ⟨hv, _⟩, hm', _⟩ => ⟨by rw [he, hv], hm'.keep.below⟩
end Go.Proofs.YtmochicneilhhaaGreat
--SHORT 2
namespace Go.Proofs.YtmochicneilhhaaGreat.kit
open Go.RowKit
theorem own_cap {M : Me} {L : List Ck} {w : World} {A : Option Addr} {m c : Nat} {T : TypeId} {sz : Nat} {xs : List Value} (k : Nat) (hm : Mem M L w) (hk : L[k]? = some (.own A m c T sz xs)) : m ≤ c ∧ c ≤ 9223372036854775807 := by
  have h : w.ownsRow 0 T sz (.slice A m c) m xs := hm.get hk
  rcases h.2 with ⟨hv, hm0⟩ | ⟨g, cap, cur, hv, _, _, hmc, hcm, _⟩
  · cases hv; omega
  · cases hv; exact ⟨hmc, hcm⟩
attribute [local irreducible] LX CX Yl Gives RetIs Fn















set_option maxHeartbeats 1000000 in
theorem same_fn (A A' : Option Addr) (n c n' c' : Nat) (l l' : List B8) (hl : l.length = n) (hl' : l'.length = n') (hn : n ≤ 9223372036854775807) (hn' : n' ≤ 9223372036854775807) :
    Fn Tryz.prog 15 [.slice A n c, .slice A' n' c'] [.ro A n 1 (bvs l), .ro A' n' 1 (bvs l')] [] fun v Lo => v = .bool (l == l') ∧ Lo = [] := by
  refine fn_enter Tryz.func15 rfl rfl (by kernel_rfl) rfl ?_
  intro w0
  repeat (first | refine wz ?_ | (refine wzb ?_; intro b_) | fail)
  refine cx_cond rfl (fun h => ?_) (fun h => ?_)
  · have h : n ≠ n' := by simp at h; omega
    have e : (l == l') = false := by
      rw [beq_eq_false_iff_ne]
      intro he
      rw [he] at hl
      omega
    rw [e]
    repeat (first | refine wz ?_ | (refine wzb ?_; intro b_) | fail)
    exact bq_ret (ret_tmp rfl rfl) [] (Gives.nil _) rfl ⟨rfl, rfl⟩
  obtain rfl : n = n' := by simp at h; omega
  repeat (first | refine wz ?_ | (refine wzb ?_; intro b_) | fail)
  refine cx_loop (α := { i : Nat // i ≤ n ∧ l.take i = l'.take i }) (fun x => [(0, none, .slice A n c), (1, none, .slice A' n c'), (5, none, .int .i64 x.1)]) (fun _ => [.ro A n 1 (bvs l), .ro A' n 1 (bvs l')]) (fun x => n - x.1) ⟨0, Nat.zero_le _, rfl⟩ ⟨rfl, rfl, rfl, trivial⟩ (Gives.refl _) ?_
  rintro ⟨i, hi, ht⟩
  dsimp only
  repeat (first | refine wz ?_ | (refine wzb ?_; intro b_) | fail)
  refine cx_cond rfl (fun h => ?_) (fun h => ?_)
  · have hlt : i < n := by simpa using h
    obtain ⟨x, hx⟩ : ∃ x, l[i]? = some x := ⟨_, List.getElem?_eq_getElem (by omega)⟩
    obtain ⟨y, hy⟩ : ∃ y, l'[i]? = some y := ⟨_, List.getElem?_eq_getElem (by omega)⟩
    have hx0 : (bvs l)[mulI i 1]? = some (bv x) := bvs_get hx
    have hy0 : (bvs l')[mulI i 1]? = some (bv y) := bvs_get hy
    repeat (first | refine wz ?_ | (refine wzb ?_; intro b_) | fail)
    refine cx_draw [] _ rfl (by kernel_rfl) (Gives.refl _) ?_
    repeat (first | ((first | (apply lx_u; exact rfl) | (apply lx_g; exact rfl; exact rfl)); first | (apply isy_indexAddr; exact yl_index (E := EV) 0 rfl rfl rfl rfl rfl (Shows.ro ..) (by first | exact fun _ => rfl | exact fun h => h | exact fun h => (Bool.and_eq_true_iff.1 h).1) (by first | exact fun _ => rfl | exact fun h => h | exact fun h => (Bool.and_eq_true_iff.1 h).1) (fun _ => by omega)) | (apply isy_indexAddr; exact yl_index (E := EV) 1 rfl rfl rfl rfl rfl (Shows.ro ..) (by first | exact fun _ => rfl | exact fun h => h | exact fun h => (Bool.and_eq_true_iff.1 h).1) (by first | exact fun _ => rfl | exact fun h => h | exact fun h => (Bool.and_eq_true_iff.1 h).1) (fun _ => by omega)) | (apply isy_load; exact yl_loadI (E := EV) 0 rfl rfl rfl (Shows.ro ..) rfl (fun _ => hx0) (by first | exact fun _ => rfl | exact fun h => h | exact fun h => (Bool.and_eq_true_iff.1 h).1)) | (apply isy_load; exact yl_loadI (E := EV) 1 rfl rfl rfl (Shows.ro ..) rfl (fun _ => hy0) (by first | exact fun _ => rfl | exact fun h => h | exact fun h => (Bool.and_eq_true_iff.1 h).1)) | (apply isy_bin_neq; exact yl_bne _ _ rfl rfl rfl rfl (by first | exact fun _ => rfl | exact fun h => h | exact fun h => (Bool.and_eq_true_iff.1 h).1) (by first | exact fun _ => rfl | exact fun h => h | exact fun h => (Bool.and_eq_true_iff.1 h).1)) | fail) | refine wz ?_ | (refine wzb ?_; intro b_) | fail)
    refine cx_cond rfl (fun h2 => ?_) (fun h2 => ?_)
    · have e : (l == l') = false := by
        rw [beq_eq_false_iff_ne]
        intro he
        rw [he, hy] at hx
        cases hx
        simp at h2
      rw [e]
      repeat (first | refine wz ?_ | (refine wzb ?_; intro b_) | fail)
      exact bq_ret (ret_tmp rfl rfl) [] (Gives.nil _) rfl ⟨rfl, rfl⟩
    · have hxy : x = y := by simpa using h2
      repeat (first | refine wz ?_ | (refine wzb ?_; intro b_) | fail)
      refine ⟨⟨i + 1, by omega, ?_⟩, ⟨rfl, rfl, slot_int (by dsimp only; omega), trivial⟩, Gives.refl _, by dsimp only; omega⟩
      rw [List.take_add_one, List.take_add_one, ht, hx, hy, hxy]
  · obtain rfl : i = n := by simp at h; omega
    have e : (l == l') = true := by
      rw [beq_iff_eq, ← List.take_of_length_le (l := l) (i := i) (by omega), ht, List.take_of_length_le (by omega)]
    rw [e]
    repeat (first | refine wz ?_ | (refine wzb ?_; intro b_) | fail)
    exact bq_ret (ret_tmp rfl rfl) [] (Gives.nil _) rfl ⟨rfl, rfl⟩


theorem own_fn (A : Option Addr) (n c : Nat) (l : List B8) (hn : n ≤ 140737488355328) : Fn Tryz.prog 9 [.slice A n c] [.ro A n 1 (bvs l)] [] fun v Lo => ∃ A' c', v = .slice A' n c' ∧ Lo = [.own A' n c' 5 1 (bvs l)] := by
  refine fn_enter Tryz.func9 rfl rfl (by kernel_rfl) rfl ?_
  intro w0
  repeat (first | refine wz ?_ | (refine wzb ?_; intro b_) | fail)
  refine lx_more (Gives.nilown _ 5 1) (Gives.tail _ _) ?_
  refine lx_append (E := EV) 0 rfl rfl rfl rfl rfl rfl rfl rfl rfl rfl rfl rfl rfl (news := bvs l) (fun w hm => row_ro 1 rfl hm) bvs_one (by unfold maxLen; omega) (by show (0 + n) * 1 ≤ _; omega) (fun _ _ _ => trivial) ?_
  intro A' c'
  repeat (first | refine wz ?_ | (refine wzb ?_; intro b_) | fail)
  exact bq_ret (ret_tmp rfl rfl) [_] (Gives.pick [0] (by decide) rfl) rfl ⟨A', c', by rw [Nat.zero_add], by rw [Nat.zero_add]; rfl⟩
/-- A row written over. -/
theorem spoil_own (A : Option Addr) (n c : Nat) (T : TypeId) (l : List B8) (hn : n ≤ 9223372036854775807) (hl : l.length = n) : Fn Tryz.prog 16 [.slice A n c] [.own A n c T 1 (bvs l)] (A.map (·.block)).toList
    fun v Lo => v = .tuple #[] ∧ Lo = [.own A n c T 1 (bvs (List.replicate n 165#8))] := by
  refine fn_enter Tryz.func16 rfl rfl (by kernel_rfl) rfl ?_
  intro w0
  repeat (first | refine wz ?_ | (refine wzb ?_; intro b_) | fail)
  refine cx_loop (α := { i : Nat // i ≤ n }) (fun x => [(0, none, .slice A n c), (2, none, .int .i64 x.1)]) (fun x => [.own A n c T 1 (bvs (List.replicate x.1 165#8 ++ l.drop x.1))]) (fun x => n - x.1) ⟨0, Nat.zero_le _⟩ ⟨rfl, rfl, trivial⟩ (Gives.refl _) ?_
  rintro ⟨i, hi⟩
  dsimp only
  repeat (first | refine wz ?_ | (refine wzb ?_; intro b_) | fail)
  refine cx_cond rfl (fun h => ?_) (fun h => ?_)
  · have hlt : i < n := by simp at h; omega
    repeat (first | ((first | (apply lx_u; exact rfl) | (apply lx_g; exact rfl; exact rfl)); first | (apply isy_indexAddr; exact yl_index (E := EV) 0 rfl rfl rfl rfl rfl (Shows.own ..) (by first | exact fun _ => rfl | exact fun h => h | exact fun h => (Bool.and_eq_true_iff.1 h).1) (by first | exact fun _ => rfl | exact fun h => h | exact fun h => (Bool.and_eq_true_iff.1 h).1) (fun _ => by omega)) | fail) | (refine isx_store ?_; refine lx_storeI (E := EV) 0 rfl rfl rfl rfl rfl rfl rfl rfl rfl (by show i + 1 ≤ (bvs _).length; rw [bvs_len, List.length_append, List.length_replicate, List.length_drop]; omega) rfl (fun _ => trivial) ?_) | refine wz ?_ | (refine wzb ?_; intro b_) | fail)
    refine ⟨⟨i + 1, by omega⟩, ⟨rfl, slot_int (by dsimp only; omega), trivial⟩, ?_, by dsimp only; omega⟩
    have e : setL (bvs (List.replicate i 165#8 ++ l.drop i)) (mulI i 1) [bv 165#8] = bvs (List.replicate (i + 1) 165#8 ++ l.drop (i + 1)) := by
      have h1 : l.drop i = l[i] :: l.drop (i + 1) := by rw [List.getElem_cons_drop]
      rw [setL_eq _ _ _ (by simp [bvs_len, mulI]; omega), mulI, h1, bvs_append, List.replicate_succ', List.append_assoc]
      have h2 : (bvs (List.replicate i 165#8)).length = i := by simp [bvs_len]
      rw [List.take_append_of_le_length (by omega), List.take_of_length_le (by omega), List.drop_append, h2]
      simp [bvs, h2, show i + 1 - i = 1 by omega]
    dsimp only
    rw [← e]
    exact Gives.refl _
  · obtain rfl : i = n := by simp at h; omega
    rw [List.drop_eq_nil_of_le (by omega), List.append_nil]
    repeat (first | refine wz ?_ | (refine wzb ?_; intro b_) | fail)
    exact bq_end (ret_none rfl) [_] (Gives.refl _) rfl ⟨rfl, rfl⟩

end Go.Proofs.YtmochicneilhhaaGreat.kit
