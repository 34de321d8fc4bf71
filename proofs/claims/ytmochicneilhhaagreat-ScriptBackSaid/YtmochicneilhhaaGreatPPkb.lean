/- packed numbers and texts: the reference's functions. Rows cut. packed texts: the reference's reader, on. packed numbers and texts: the program's reader. -/
import Derived.Test.YtmochicneilhhaaGreatPGo
import Derived.Test.YtmochicneilhhaaGreatPPk
import Derived.Test.YtmochicneilhhaaGreatPPka
--SHORT 1
namespace Go.Proofs.YtmochicneilhhaaGreat
open Go.RowKit
section
variable {P : Program} {n : Nat} {t : Fr} {L : List Ck}
end
end Go.Proofs.YtmochicneilhhaaGreat
namespace Go.Proofs.YtmochicneilhhaaGreat.pk
open Go.RowKit Go.Proofs.YtmochicneilhhaaGreat.kit
attribute [local irreducible] LX CX Yl Gives RetIs Fn
attribute [local irreducible] be

set_option maxHeartbeats 1000000 in
theorem rNumber_fn (n : BitVec 64) (k : Nat) (hk : k ≤ 8) : Fn Tryz.prog 81 [.int .u64 n.toNat, .int .i64 k] [] [] fun v Lo => ∃ A c, v = .slice A k c ∧ Lo = [.own A k c 5 1 (bvs (be k n))] := by
  refine fn_enter Tryz.func81 rfl rfl (by kernel_rfl) rfl ?_
  intro w0
  repeat (first | (refine isx_make ?_; (refine isx_make ?_; refine lx_make (E := EV) k rfl rfl rfl rfl rfl rfl rfl rfl rfl rfl rfl rfl rfl rfl (by show 1 * k ≤ _; omega) (by omega) ?_; intro b_)) | refine wz ?_ | (refine wzb ?_; intro b_) | fail)
  have hbl := be_len k n
  refine cx_loop (α := { j : Nat // j ≤ k }) (fun y => [(0, none, .int .u64 (n >>> (8 * y.1)).toNat), (5, none, .slice (some ⟨b_, 0, none⟩) k k), (6, none, .int .i64 ((k : Int) - 1 - y.1))])
    (fun y => [.own (some ⟨b_, 0, none⟩) k k 5 1 (bvs (List.replicate (k - y.1) 0#8 ++ (be k n).drop (k - y.1)))]) (fun y => k - y.1) ⟨0, Nat.zero_le _⟩ ⟨slot_int (by simp), rfl, slot_int (by dsimp only; omega), trivial⟩ ?_ ?_
  · dsimp only
    rw [Nat.sub_zero, List.drop_eq_nil_of_le (by omega), List.append_nil, ← bvs_zero]
    exact Gives.blkown 0 (m := k) (sz := 1) rfl (by simp) (by unfold maxLen; omega)
  rintro ⟨j, hj⟩
  dsimp only
  repeat (first | refine wz ?_ | (refine wzb ?_; intro b_) | fail)
  refine cx_cond rfl (fun h => ?_) (fun h => ?_)
  · have hlt : j < k := by simp at h; omega
    have hy := be_get n (show k - 1 - j < k by omega)
    rw [show k - 1 - (k - 1 - j) = j by omega] at hy
    have hset := fill_back (k := k) hbl hlt hy
    have hat : ((k : Int) - 1 - j).toNat = k - 1 - j := by omega
    generalize (be k n) = l at hbl hset hy ⊢
    have hq := quo256 n j
    repeat (first | ((first | (apply lx_u; exact rfl) | (apply lx_g; exact rfl; exact rfl)); first | (apply isy_bin_rem; exact q_brem uk64 _ 256#64 rfl rfl rfl rfl) | (apply isy_bin_quo; exact q_bquo uk64 _ 256#64 rfl rfl rfl rfl) | (apply isy_convert; exact yl_eq (yl_cv (E := EV) uk8 _ rfl rfl rfl rfl (by first | exact fun _ => rfl | exact fun h => h | exact fun h => (Bool.and_eq_true_iff.1 h).1)) (fun _ => congrArg (Value.int .u8) (show (((n >>> (8 * j) % 256#64).setWidth 8).toNat : Int) = ((n >>> (8 * j)).setWidth 8).toNat by rw [rem256]))) | (apply isy_indexAddr; exact yl_eq (yl_indexS (E := EV) rfl rfl rfl rfl (by first | exact fun _ => rfl | exact fun h => h | exact fun h => (Bool.and_eq_true_iff.1 h).1) (by first | exact fun _ => rfl | exact fun h => h | exact fun h => (Bool.and_eq_true_iff.1 h).1) (fun _ => by omega)) (fun _ => by rw [hat])) | fail) | (refine isx_store ?_; refine lx_storeI (E := EV) 0 rfl rfl rfl rfl rfl rfl rfl rfl rfl (by show k - 1 - j + 1 ≤ (bvs _).length; simp [bvs_len]; omega) rfl (fun _ => trivial) ?_) | refine wz ?_ | (refine wzb ?_; intro b_) | fail)
    refine ⟨⟨j + 1, by omega⟩, ⟨slot_int (by dsimp only; rw [hq]), rfl, slot_int (by dsimp only; omega), trivial⟩, ?_, by dsimp only; omega⟩
    dsimp only
    rw [← hset]
    exact Gives.refl _
  · obtain rfl : j = k := by simp at h; omega
    rw [Nat.sub_self, List.drop_zero, List.replicate_zero, List.nil_append]
    repeat (first | refine wz ?_ | (refine wzb ?_; intro b_) | fail)
    exact bq_ret (ret_tmp rfl rfl) [_] (Gives.refl _) rfl ⟨_, _, rfl, rfl⟩


theorem rInt_fn (n : Int) : Fn Tryz.prog 107 [.int .i64 n] [] [] fun v Lo => ∃ A c, v = .slice A 8 c ∧ Lo = [.own A 8 c 5 1 (bvs (be 8 (BitVec.ofInt 64 n)))] := by
  refine fn_enter Tryz.func107 rfl rfl (by kernel_rfl) rfl ?_
  intro w0
  repeat (first | ((first | (apply lx_u; exact rfl) | (apply lx_g; exact rfl; exact rfl)); first | (apply isy_convert; exact q_ci uk64 rfl rfl rfl) | fail) | (refine isx_call ?_; (refine lx_call0 (rNumber_fn (BitVec.ofInt 64 n) 8 (by omega)) (fun _ hm => in_nil hm) rfl rfl rfl rfl rfl rfl rfl rfl ?_; rintro v_ Lo_ ⟨A_, c_, rfl, rfl⟩)) | refine wz ?_ | (refine wzb ?_; intro b_) | fail)
  exact bq_ret (ret_tmp rfl rfl) [_] (Gives.refl _) rfl ⟨_, _, rfl, rfl⟩


theorem rText_fn (l : List B8) (hl : l.length ≤ 65535) : Fn Tryz.prog 106 [.string (sb l)] [] [] fun v Lo => ∃ A c, v = .tuple #[.slice A (2 + l.length) c, .int .i64 0] ∧ Lo = [.own A (2 + l.length) c 5 1 (bvs (txt l))] := by
  refine fn_enter Tryz.func106 rfl rfl (by kernel_rfl) rfl ?_
  intro w0
  repeat (first | ((first | (apply lx_u; exact rfl) | (apply lx_g; exact rfl; exact rfl)); first | (apply isy_blt; exact q_slen rfl rfl) | fail) | refine wz ?_ | (refine wzb ?_; intro b_) | fail)
  refine cx_cond rfl (fun h => by simp at h; omega) (fun _ => ?_)
  repeat (first | ((first | (apply lx_u; exact rfl) | (apply lx_g; exact rfl; exact rfl)); first | (apply isy_blt; exact q_slen rfl rfl) | (apply isy_convert; exact q_ci uk64 rfl rfl rfl) | fail) | (refine isx_call ?_; (refine lx_call0 (rNumber_fn (BitVec.ofInt 64 (l.length : Int)) 2 (by omega)) (fun _ hm => in_nil hm) rfl rfl rfl rfl rfl rfl rfl rfl ?_; rintro v_ Lo_ ⟨A_, c_, rfl, rfl⟩)) | refine wz ?_ | (refine wzb ?_; intro b_) | fail)
  refine lx_appendS (E := EV) 0 rfl rfl rfl rfl rfl rfl rfl rfl rfl rfl rfl rfl rfl (by omega) (fun _ _ _ => trivial) ?_
  intro A' c'
  rw [← bvs_append, ofInt_nat]
  repeat (first | refine wz ?_ | (refine wzb ?_; intro b_) | fail)
  exact bq_ret (ret_tmp2 rfl rfl rfl) [_] (Gives.refl _) rfl ⟨_, _, rfl, rfl⟩
/- the reference's reader: bytes, a place, and whether it has failed -/
def rTake (l : List B8) (at' : Nat) (f : Bool) (k : Nat) : BitVec 64 × Nat × Bool := if f = true ∨ l.length < at' + k then (0#64, at', true) else (de 0#64 ((l.drop at').take k), at' + k, false)
attribute [local irreducible] de

def rText (l : List B8) (at' : Nat) (f : Bool) : List B8 × Nat × Bool :=
  if (rTake l at' f 2).2.2 = true ∨ l.length < (rTake l at' f 2).2.1 + (rTake l at' f 2).1.toNat then ([], at', true)
  else ((l.drop (rTake l at' f 2).2.1).take (rTake l at' f 2).1.toNat, (rTake l at' f 2).2.1 + (rTake l at' f 2).1.toNat, false)
end Go.Proofs.YtmochicneilhhaaGreat.pk
namespace Go.Proofs.YtmochicneilhhaaGreat
open Go.RowKit
/-- the first elements of a row -/
theorem Row.pre {w : World} {B sz m k : Nat} {A : Option Addr} {xs : List Value} (h : Row w B sz A m xs) (h2 : k ≤ m) : Row w B sz A k (xs.take (k * sz)) := by
  have h4 := Nat.mul_le_mul_right sz h2
  refine ⟨by rw [List.length_take, h.1]; omega, fun hn => ?_⟩
  obtain ⟨b, off, rfl, hb, hcell⟩ := h.2 (by omega)
  refine ⟨b, off, rfl, hb, fun j u hu => ?_⟩
  rw [List.getElem?_take] at hu
  split at hu
  · exact hcell _ u hu
  · cases hu
theorem Row.preb {w : World} {B m k : Nat} {A : Option Addr} {l : List B8} (h : Row w B 1 A m (bvs l)) (h2 : k ≤ m) : Row w B 1 A k (bvs (l.take k)) := by
  have := h.pre h2
  rwa [Nat.mul_one, show (bvs l).take k = bvs (l.take k) by simp [bvs, List.map_take]] at this
theorem Row.cutb {w : World} {B m c lo hi : Nat} {A : Option Addr} {l : List B8} (h : Row w B 1 A m (bvs l)) (h1 : lo ≤ hi) (h2 : hi ≤ m) (hc : m ≤ c) : Row w B 1 (cutA A c lo 1) (hi - lo) (bvs ((l.drop lo).take (hi - lo))) := by
  have := h.cut h1 h2 hc
  rwa [cutL_bvs] at this
theorem Row.sufb {w : World} {B m c lo : Nat} {A : Option Addr} {l : List B8} (h : Row w B 1 A m (bvs l)) (h1 : lo ≤ m) (hc : m ≤ c) : Row w B 1 (cutA A c lo 1) (m - lo) (bvs (l.drop lo)) := by
  have := h.cutb h1 (Nat.le_refl _) hc
  have hl := h.1
  rw [bvs_len] at hl
  rwa [List.take_of_length_le (by rw [List.length_drop]; omega)] at this
theorem Row.nil {w : World} {B sz : Nat} {A : Option Addr} : Row w B sz A 0 [] := ⟨by simp, fun h => absurd h (Nat.lt_irrefl 0)⟩
/-- a block of slices, as rows -/
theorem rows_blk {M : Me} {L : List Ck} {w : World} {b : Nat} {T : TypeId} {cs : List Value} (k : Nat) (rs : List Rw) (hm : Mem M L w) (hk : L[k]? = some (.blk b cs T)) (hcs : cs = rwv rs) (hr : ∀ r ∈ rs, r.ok w) : Mem ⟨w, []⟩ [.rows (some ⟨b, 0, none⟩) rs.length rs] w :=
  rows_in ⟨by rw [← hcs]; exact row_blk k hk (by rw [hcs, rwv_len, Nat.mul_one]) hm, hr⟩ (in_nil hm) rfl
theorem own_ro {M : Me} {L : List Ck} {w : World} {A : Option Addr} {m c : Nat} {T : TypeId} {sz : Nat} {xs : List Value} (k : Nat) (hm : Mem M L w) (hk : L[k]? = some (.own A m c T sz xs)) : Mem ⟨w, []⟩ [.ro A m sz xs] w := in_ro (row_own k hk hm) (in_nil hm) rfl
theorem Gives.cutb {L : List Ck} (k : Nat) {A : Option Addr} {m c lo : Nat} {l : List B8} (hk : L[k]? = some (.ro A m 1 (bvs l))) (h2 : lo ≤ m) (hc : m ≤ c) : Gives L (.ro (cutA A c lo 1) (m - lo) 1 (bvs (l.drop lo)) :: L) :=
  Gives.add k hk rfl rfl fun w hr => ⟨Row.sufb hr h2 hc, fun b hb => by
    obtain ⟨hq, hb⟩ := hb
    obtain ⟨b0, off, rfl, _, _⟩ := hr.2 (by omega)
    rw [cutA] at hb
    split at hb
    · exact ⟨by omega, hb⟩
    · rw [Option.map_some, add_at] at hb
      exact ⟨by omega, hb⟩⟩
/-- what a call leaves, otherwise told -/
theorem Fn.gives {P : Program} {f : FuncId} {args : List Value} {Lin : List Ck} {D : List Nat} {post post' : Value → List Ck → Prop} (h : Fn P f args Lin D post) (hp : ∀ v Lo, post v Lo → ∃ Lo', post' v Lo' ∧ Gives Lo Lo' ∧ Lo'.all Ck.mut_ = true) : Fn P f args Lin D post' :=
  ⟨h.1, fun w hm => (h.2 w hm).mono fun _ _ ⟨v, Lo, he, hq, hm', _⟩ => by
    obtain ⟨Lo', h1, h2, h3⟩ := hp v Lo hq
    exact ⟨v, Lo', he, h1, h2 _ _ hm', h3⟩⟩
end Go.Proofs.YtmochicneilhhaaGreat
--SHORT 2
namespace Go.Proofs.YtmochicneilhhaaGreat.pk
open Go.RowKit Go.Proofs.YtmochicneilhhaaGreat.kit
theorem dn_lt : ∀ (l : List B8) (n : Nat), dn n l < (n + 1) * 256 ^ l.length
  | [], n => by show n < _; simp
  | c :: l, n => by
    have h := dn_lt l (n * 256 + c.toNat)
    have hc := c.isLt
    refine Nat.lt_of_lt_of_le h ?_
    rw [List.length_cons, Nat.pow_succ, Nat.mul_comm (256 ^ l.length) 256, ← Nat.mul_assoc]
    exact Nat.mul_le_mul_right _ (by omega)
theorem de_lt (l : List B8) : (de 0#64 l).toNat < 256 ^ l.length := by
  rw [de_dn l 0#64 0 rfl]
  have := dn_lt l 0
  rw [Nat.zero_add, Nat.one_mul] at this
  exact Nat.lt_of_le_of_lt (Nat.mod_le _ _) this
theorem rTake_lt (l : List B8) (at' : Nat) (f : Bool) (k : Nat) : (rTake l at' f k).1.toNat < 256 ^ k := by
  unfold rTake
  split
  · exact Nat.pow_pos (by decide)
  · rename_i h
    have := de_lt ((l.drop at').take k)
    rw [List.length_take, List.length_drop, Nat.min_eq_left (by rw [not_or] at h; omega)] at this
    exact this
theorem rTake_at (l : List B8) (at' : Nat) (f : Bool) (k : Nat) : (rTake l at' f k).2.1 ≤ at' + k ∧ at' ≤ (rTake l at' f k).2.1 ∧ ((rTake l at' f k).2.2 = false → at' + k ≤ l.length ∧ (rTake l at' f k).2.1 = at' + k) := by
  unfold rTake
  split
  · simp
  · rename_i h
    rw [not_or] at h
    simp
    omega
attribute [local irreducible] LX CX Yl Gives RetIs Fn
attribute [local irreducible] be de

def rDoneN (n at' : Nat) (f : Bool) : Int := if f = true then 20 else if at' < n then 21 else 0

end Go.Proofs.YtmochicneilhhaaGreat.pk
--SHORT 2
namespace Go.Proofs.YtmochicneilhhaaGreat.pk
open Go.RowKit Go.Proofs.YtmochicneilhhaaGreat.kit
/-- a reader's state -/
structure Rs where
  A : Option Addr
  n : Nat
  c : Nat
  l : List B8
  e : Int
abbrev Rs.blk (r : Rs) (b : Nat) : Ck := .blk b [.slice r.A r.n r.c, .int .i64 r.e] 220
abbrev Rs.ro (r : Rs) : Ck := .ro r.A r.n 1 (bvs r.l)
structure Rs.Ok (r : Rs) : Prop where
  len : r.l.length = r.n
  cap : r.n ≤ r.c
  max : r.c ≤ 9223372036854775807
def Rs.may (r : Rs) (k : Nat) : Bool := decide (r.e = 0) && decide (k ≤ r.n)
def Rs.adv (r : Rs) (k : Nat) : Rs := if r.e ≠ 0 then r else if r.n < k then { r with e := 20 } else ⟨cutA r.A r.c k 1, r.n - k, r.c - k, r.l.drop k, 0⟩
def Rs.got (r : Rs) (k : Nat) : List B8 := if r.may k then r.l.take k else []
def Rs.gotV (r : Rs) (k : Nat) : Value := if r.may k then .slice r.A k r.c else .slice none 0 0
theorem Rs.Ok.adv {r : Rs} (h : r.Ok) (k : Nat) : (r.adv k).Ok := by
  obtain ⟨h1, h2, h3⟩ := h
  unfold Rs.adv
  split
  · exact ⟨h1, h2, h3⟩
  · split
    · exact ⟨h1, h2, h3⟩
    · exact ⟨by dsimp only; rw [List.length_drop]; omega, by dsimp only; omega, by dsimp only; omega⟩
theorem Rs.adv_err {r : Rs} (k : Nat) (h : r.e ≠ 0) : r.adv k = r := by rw [Rs.adv, if_pos h]
theorem Rs.adv_short {r : Rs} {k : Nat} (h : r.e = 0) (hk : r.n < k) : r.adv k = { r with e := 20 } := by rw [Rs.adv, if_neg (by simp [h]), if_pos hk]
theorem Rs.adv_ok {r : Rs} {k : Nat} (h : r.e = 0) (hk : k ≤ r.n) : r.adv k = ⟨cutA r.A r.c k 1, r.n - k, r.c - k, r.l.drop k, 0⟩ := by rw [Rs.adv, if_neg (by simp [h]), if_neg (by omega)]
theorem Rs.may_err {r : Rs} {k : Nat} (h : r.e ≠ 0) : r.may k = false := by simp [Rs.may, h]
theorem Rs.may_short {r : Rs} {k : Nat} (hk : r.n < k) : r.may k = false := by simp [Rs.may]; omega
theorem Rs.may_ok {r : Rs} {k : Nat} (h : r.e = 0) (hk : k ≤ r.n) : r.may k = true := by simp [Rs.may, h, hk]
/-- what is left, of what there was -/
theorem Rs.Ok.gives {r : Rs} (h : r.Ok) (i k : Nat) {L : List Ck} (hk : L[i]? = some r.ro) : Gives L ((r.adv k).ro :: L) := by
  by_cases he : r.e = 0
  · by_cases hn : k ≤ r.n
    · rw [Rs.adv_ok he hn]
      exact Gives.cutb i hk hn h.cap
    · rw [Rs.adv_short he (by omega)]
      exact Gives.add i hk rfl rfl fun _ h => ⟨h, fun _ hb => hb⟩
  · rw [Rs.adv_err k he]
    exact Gives.add i hk rfl rfl fun _ h => ⟨h, fun _ hb => hb⟩
theorem Rs.got_row {r : Rs} {w : World} (k : Nat) (h : Row w w.heap.size 1 r.A r.n (bvs r.l)) : r.may k = true → Row w w.heap.size 1 r.A k (bvs (r.got k)) := fun hm => by
  rw [Rs.got, if_pos hm]
  simp only [Rs.may, Bool.and_eq_true, decide_eq_true_eq] at hm
  exact h.preb hm.2
attribute [local irreducible] LX CX Yl Gives RetIs Fn
attribute [local irreducible] be de
theorem bytes_fn (b : Nat) (r : Rs) (hr : r.Ok) (k : Nat) (hk : k ≤ 1048576) : Fn Tryz.prog 152 [.pointer (some ⟨b, 0, none⟩), .int .i64 k] [r.blk b] [b]
    fun v Lo => v = .tuple #[r.gotV k, .bool (r.may k)] ∧ Lo = [(r.adv k).blk b] := by
  obtain ⟨h1, h2, h3⟩ := hr
  refine fn_enter Tryz.func152 rfl rfl (by kernel_rfl) rfl ?_
  intro w0
  repeat (first | refine wzf ?_ | (refine wzb ?_; intro b_) | fail)
  refine cx_cond rfl (fun h => ?_) (fun h => ?_)
  · have he : r.e ≠ 0 := by simpa using h
    rw [Rs.adv_err k he, Rs.gotV, Rs.may_err he]
    repeat (first | refine wz ?_ | (refine wzb ?_; intro b_) | fail)
    exact bq_ret (ret_tmp2 rfl rfl rfl) [_] (Gives.refl _) rfl ⟨rfl, rfl⟩
  have he : r.e = 0 := by simpa using h
  repeat (first | refine wz ?_ | (refine wzb ?_; intro b_) | fail)
  refine cx_cond rfl (fun h => ?_) (fun h => ?_)
  · have hk : r.n < k := by simpa using h
    rw [Rs.adv_short he hk, Rs.gotV, Rs.may_short hk]
    repeat (first | refine wz ?_ | (refine wzb ?_; intro b_) | fail)
    exact bq_ret (ret_tmp2 rfl rfl rfl) [_] (Gives.refl _) rfl ⟨rfl, rfl⟩
  have hk : k ≤ r.n := by simp at h; omega
  rw [Rs.adv_ok he hk, Rs.gotV, Rs.may_ok he hk]
  repeat (first | ((first | (apply lx_u; exact rfl) | (apply lx_g; exact rfl; exact rfl)); first | (apply isy_slice; exact q_slh rfl rfl rfl rfl) | (apply isy_slice; exact q_sll rfl rfl rfl rfl) | fail) | refine wz ?_ | (refine wzb ?_; intro b_) | fail)
  refine bq_ret (ret_tmp2 rfl rfl rfl) [_] (Gives.refl _) rfl ⟨rfl, ?_⟩
  rw [he]
  rfl
end Go.Proofs.YtmochicneilhhaaGreat.pk
