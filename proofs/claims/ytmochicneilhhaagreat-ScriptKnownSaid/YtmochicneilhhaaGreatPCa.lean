/- sync.Once: the parts of its slow road, and its Do, over a function by its contract. Checks of bytes, plainly: registers of 32 digits, a digit at a time. No program. checks: the table and what is taken by it. -/
import Derived.Test.YtmochicneilhhaaGreatPBv
import Derived.Test.YtmochicneilhhaaGreatPEnv
import Derived.Test.YtmochicneilhhaaGreatPGo
import Derived.Test.YtmochicneilhhaaGreatPKi
import Derived.Test.YtmochicneilhhaaGreatPSf
import Derived.Test.YtmochicneilhhaaGreatChecked
import Derived.KernelRfl
import Derived.Tactics
import Derived.Tactics2
import Derived.Defers
import Derived.Laws.Pointers
import Derived.Laws.LoneSync
import Derived.RegionTactic
import Derived.RegionCalls
import Derived.ChangeAlike
namespace Go.Proofs.YtmochicneilhhaaGreat.once
open Go.RowKit
theorem disable (w : World) : (callFunc 181 #[]).run Tryz.prog w = .ok (.value (.tuple #[])) w := run_call_mark0 Tryz.func181 (by kernel_rfl) (by kernel_rfl) (by kernel_rfl) .disable (by kernel_rfl) w
theorem enable (w : World) : (callFunc 183 #[]).run Tryz.prog w = .ok (.value (.tuple #[])) w := run_call_mark0 Tryz.func183 (by kernel_rfl) (by kernel_rfl) (by kernel_rfl) .enable (by kernel_rfl) w
theorem acquire (a : Addr) (w : World) : (callFunc 184 #[.pointer (some a)]).run Tryz.prog w = .ok (.value (.tuple #[])) w := run_call_marked Tryz.func184 (by kernel_rfl) (by kernel_rfl) (by kernel_rfl) .acquire (by kernel_rfl) a w
theorem releaseMerge (a : Addr) (w : World) : (callFunc 186 #[.pointer (some a)]).run Tryz.prog w = .ok (.value (.tuple #[])) w := run_call_marked Tryz.func186 (by kernel_rfl) (by kernel_rfl) (by kernel_rfl) .releaseMerge (by kernel_rfl) a w

/-- '(*sync/atomic.Bool).Store(true)', entered as a deferred call: the cell holds 1. -/
theorem store_deferred (a : Addr) (x : Value) (u : FrameMode) (w : World) (hc : w.cell? a = some x) (hz : w.frozen? a = false) :
    CallsD Tryz.prog 176 #[.pointer (some a), .bool true] u w fun e u' w' => u' = u ∧ (e = .returned (.tuple #[]) ∧ w' = w.drew.setCell a (.int .u32 1)) := by
  have hc' : w.drew.cell? a = some x := by go_simp
  have hz' : w.drew.frozen? a = false := by go_simp
  have hst := run_call_store (P := Tryz.prog) Tryz.func179 (by kernel_rfl) (by kernel_rfl) (by kernel_rfl) (by kernel_rfl) (k := .u32) (y := 1) hc' hz'
  go_enter_d Tryz.func176, Tryz.ntmps176
  go_wp2
  go_region_calls
  all_goals (go_end0; exact ⟨rfl, rfl⟩)

set_option maxRecDepth 100000 in
/-- '(*sync.Mutex).Unlock', entered as a deferred call, the lock held and nobody waiting: it is free. -/
theorem unlock_deferred (a : Addr) (u : FrameMode) (w : World) (hc : w.cell? a = some (.int .i32 1)) (hz : w.frozen? a = false) :
    CallsD Tryz.prog 175 #[.pointer (some a)] u w fun e u' w' => u' = u ∧ (e = .returned (.tuple #[]) ∧ w' = w.setCell a (.int .i32 0)) := by
  have hd := disable
  have he := enable
  have hr := releaseMerge
  have hadd := run_call_add (P := Tryz.prog) Tryz.func187 (by kernel_rfl) (by kernel_rfl) (by kernel_rfl) .i32 (by kernel_rfl) (y := -1) (s := 0) hc hz (by simp [go_sem]; rfl)
  have hcv := run_convert_to_unsafe (P := Tryz.prog) (src := 248) (dst := 252) Tryz.underlying248 Tryz.underlying252 (by kernel_rfl) hc
  go_enter_d Tryz.func175, Tryz.ntmps175
  go_wp2
  go_end0
  go_wp2
  go_end0
  exact ⟨rfl, rfl⟩

set_option maxRecDepth 100000 in
/-- '(*sync.Mutex).Lock', the lock free: it is held. -/
theorem lock_free (a : Addr) (w : World) (hc : w.cell? a = some (.int .i32 0)) (hz : w.frozen? a = false) :
    Calls Tryz.prog 174 #[.pointer (some a)] w fun e w' => e = .returned (.tuple #[]) ∧ w' = w.setCell a (.int .i32 1) := by
  have hd := disable
  have he := enable
  have ha := acquire
  have hcas := run_call_cas_hit (P := Tryz.prog) Tryz.func182 (by kernel_rfl) (by kernel_rfl) (by kernel_rfl) .i32 (by kernel_rfl) (y := 1) hc hz
  have hc' : (w.setCell a (.int .i32 1)).cell? a = some (.int .i32 1) := World.cell?_setCell_same w a _ hc
  have hcv := run_convert_to_unsafe (P := Tryz.prog) (src := 248) (dst := 252) Tryz.underlying248 Tryz.underlying252 (by kernel_rfl) hc'
  go_enter Tryz.func174, Tryz.ntmps174
  go_wp2
  first | go_end0 | (simp only [Exit.inBlock, Exit.then]; refine bodyPost_ret (results_none rfl _ _ _) rfl ?_) | refine bodyPost_ret (results_none rfl _ _ _) rfl ?_
  go_wp2
  go_end0
  exact ⟨rfl, rfl⟩

set_option maxRecDepth 100000 in
set_option maxHeartbeats 1600000 in
theorem slow_any (b off : Nat) (g : FuncId) (cap : Array Value) (w : World) (R : World → Prop) (hg : Goes Tryz.prog g)
    (h0 : w.cell? ⟨b, off, none⟩ = some (.int .u32 0)) (h1 : w.cell? ⟨b, off + 1, none⟩ = some (.int .i32 0)) (f1 : w.frozen? ⟨b, off + 1, none⟩ = false)
    (hclo : Calls Tryz.prog g cap (w.setCell ⟨b, off + 1, none⟩ (.int .i32 1)) fun e w' => e = .returned (.tuple #[]) ∧ R w' ∧ w'.cell? ⟨b, off, none⟩ = some (.int .u32 0) ∧ w'.cell? ⟨b, off + 1, none⟩ = some (.int .i32 1) ∧ w'.frozen? ⟨b, off, none⟩ = false ∧ w'.frozen? ⟨b, off + 1, none⟩ = false) :
    Calls Tryz.prog 166 #[.pointer (some ⟨b, off, none⟩), .func (.func g) #[] cap] w fun e w' => e = .returned (.tuple #[]) ∧
      ∃ w2, R w2 ∧ w' = (w2.drew.setCell ⟨b, off, none⟩ (.int .u32 1)).setCell ⟨b, off + 1, none⟩ (.int .i32 0) := by
  have hl := run_call_load (P := Tryz.prog) Tryz.func173 (by kernel_rfl) (by kernel_rfl) (by kernel_rfl) .u32 (by kernel_rfl) (w := w.setCell ⟨b, off + 1, none⟩ (.int .i32 1)) (a := ⟨b, off, none⟩) (x := 0) ((World.cell?_setCell_other _ ⟨b, off + 1, none⟩ ⟨b, off, none⟩ _ (by simp)).trans h0)
  have hnot : ∀ (x : Bool) (w : World), (Op.unary .not (.bool x)).run Tryz.prog w = .ok (.bool (!x)) w := fun _ _ => rfl
  have hgo := hg cap (w.setCell ⟨b, off + 1, none⟩ (.int .i32 1))
  go_enter_defers Tryz.func166, Tryz.ntmps166
  go_wp2_with (go_at_call 174; refine (lock_free ⟨b, off + 1, none⟩ _ (by go_simp) (by go_simp)).mono ?_; rintro e w' ⟨rfl, rfl⟩)
  go_wp2
  refine hclo.mono ?_
  rintro e w2 ⟨rfl, hR, c0, c1, z0, z1⟩
  go_wp2
  refine leaves_cons (f := 176) (args := #[.pointer (some ⟨b, off, none⟩), .bool true]) (by simp) (by simp [go_sem]) ?_
  refine (store_deferred ⟨b, off, none⟩ (.int .u32 0) .returning _ c0 z0).mono ?_
  rintro e u' w'' ⟨rfl, rfl, rfl⟩
  refine leaves_cons (f := 175) (args := #[.pointer (some ⟨b, off + 1, none⟩)]) (by simp [settle]) (by simp [go_sem]) ?_
  refine (unlock_deferred ⟨b, off + 1, none⟩ _ _ ?_ (by simp [z1])).mono ?_
  · refine (World.cell?_setCell_other _ ⟨b, off, none⟩ ⟨b, off + 1, none⟩ _ (by simp)).trans ?_
    rw [World.cell?_drew]
    exact c1
  rintro e u' w'' ⟨rfl, rfl, rfl⟩
  simp [Leaves, settle, results, Tryz.results166]
  exact ⟨w2, hR, rfl⟩
theorem slow_fn (b : Nat) (g : FuncId) (cap rest rest' : List Value) (T : TypeId) (Lx : List Ck)
    (hclo : Fn Tryz.prog g cap (.blk b (.int .u32 0 :: .int .i32 1 :: rest) T :: Lx) [b] fun v Lo => v = .tuple #[] ∧ Lo = [.blk b (.int .u32 0 :: .int .i32 1 :: rest') T]) (hx : ∀ c ∈ Lx, c.mut_ = true → ∀ g, c.on g → g ∈ [b]) :
    Fn Tryz.prog 166 [.pointer (some ⟨b, 0, none⟩), .func (.func g) #[] cap.toArray] (.blk b (.int .u32 0 :: .int .i32 0 :: rest) T :: Lx) [b] fun v Lo => v = .tuple #[] ∧ Lo = [.blk b (.int .u32 1 :: .int .i32 0 :: rest') T] := by
  refine ⟨goes_of Tryz.func166 rfl rfl, fun w hm => ?_⟩
  have hm1 : Mem ⟨w, [b]⟩ (.blk b (.int .u32 0 :: .int .i32 1 :: rest) T :: Lx) (w.setCell ⟨b, 1, none⟩ (.int .i32 1)) := hm.store (k := 0) (off := 1) rfl (.int .i32 1)
  have hm2 : Mem ⟨w.setCell ⟨b, 1, none⟩ (.int .i32 1), [b]⟩ (.blk b (.int .u32 0 :: .int .i32 1 :: rest) T :: Lx) (w.setCell ⟨b, 1, none⟩ (.int .i32 1)) :=
    ⟨Keep.refl _ _, hm1.all, fun c hc hcm g hg => .inl (by
      rcases List.mem_cons.1 hc with rfl | hc
      · cases hg; exact List.mem_cons_self ..
      · exact hx c hc hcm g hg), hm1.sep⟩
  refine (slow_any b 0 g cap.toArray w (fun w2 => Mem ⟨w, [b]⟩ (.blk b (.int .u32 0 :: .int .i32 1 :: rest') T :: Lx) w2) hclo.1 (hm.cell (k := 0) rfl rfl) (hm.cell (k := 0) rfl rfl) (hm.free (k := 0) rfl _) ((hclo.2 _ hm2).mono ?_)).mono ?_
  · rintro e w2 ⟨v, Lo, rfl, ⟨rfl, rfl⟩, hm3, hmu⟩
    have hm4 := Mem.call (L1 := [.blk b (.int .u32 0 :: .int .i32 1 :: rest) T]) (L2 := Lx) hm1 (fun g hg => ⟨_, List.mem_cons_self .., rfl, (List.mem_singleton.1 hg).symm⟩) hm3 hmu
    exact ⟨rfl, hm4, hm4.cell (k := 0) rfl rfl, hm4.cell (k := 0) rfl rfl, hm4.free (k := 0) rfl _, hm4.free (k := 0) rfl _⟩
  · rintro e w' ⟨rfl, w2, hm5, rfl⟩
    have hm6 := (hm5.drew.store (k := 0) (off := 0) rfl (.int .u32 1)).store (k := 0) (off := 1) rfl (.int .i32 0)
    exact ⟨_, _, rfl, ⟨rfl, rfl⟩, hm6.pick [0] (by decide), rfl⟩
attribute [local irreducible] LX CX Yl Gives RetIs Fn
theorem load_ext {L : List Ck} {b off m : Nat} {d : Int} {cs : List Value} (k : Nat) (hk : L[k]? = some (.ro (some ⟨b, 0, none⟩) m 1 cs)) (hd : cs[off]? = some (.int .u32 d)) (M : Me) (w : World) (hm : Mem M L w) :
    (callFunc 173 #[.pointer (some ⟨b, off, none⟩)]).run Tryz.prog w = .ok (.value (.int .u32 d)) w :=
  run_call_load (P := Tryz.prog) Tryz.func173 (by kernel_rfl) (by kernel_rfl) (by kernel_rfl) .u32 (by kernel_rfl) (ro_cell hm hk hd)
theorem load_fn (b : Nat) (d : Int) (off m : Nat) (cs : List Value) (hd : cs[off]? = some (.int .u32 d)) : Fn Tryz.prog 165 [.pointer (some ⟨b, off, none⟩)] [.ro (some ⟨b, 0, none⟩) m 1 cs] [] fun v Lo => v = .bool (d != 0) ∧ Lo = [] := by
  refine fn_enter Tryz.func165 rfl rfl (by kernel_rfl) rfl ?_
  intro w0
  repeat (first | (refine isx_call ?_; (refine lx_ext0 (load_ext 0 rfl hd) rfl rfl rfl rfl rfl rfl rfl rfl ?_)) | refine wz ?_ | (refine wzb ?_; intro b_) | fail)
  exact bq_ret (ret_tmp rfl rfl) [] (Gives.nil _) rfl ⟨rfl, rfl⟩
/-- not yet done -/
theorem do_fn (b : Nat) (g : FuncId) (cap rest rest' : List Value) (T : TypeId) (Lx : List Ck)
    (hclo : Fn Tryz.prog g cap (.blk b (.int .u32 0 :: .int .i32 1 :: rest) T :: Lx) [b] fun v Lo => v = .tuple #[] ∧ Lo = [.blk b (.int .u32 0 :: .int .i32 1 :: rest') T]) (hx : ∀ c ∈ Lx, c.mut_ = true → ∀ g, c.on g → g ∈ [b]) :
    Fn Tryz.prog 146 [.pointer (some ⟨b, 0, none⟩), .func (.func g) #[] cap.toArray] (.blk b (.int .u32 0 :: .int .i32 0 :: rest) T :: Lx) [b] fun v Lo => v = .tuple #[] ∧ Lo = [.blk b (.int .u32 1 :: .int .i32 0 :: rest') T] := by
  have hx' : ∀ c ∈ (Ck.blk b (.int .u32 0 :: .int .i32 0 :: rest) T :: Lx), c.mut_ = true → ∀ g, c.on g → g ∈ [b] := by
    intro c hc hcm g hg
    rcases List.mem_cons.1 hc with rfl | hc
    · cases hg; exact List.mem_cons_self ..
    · exact hx c hc hcm g hg
  refine fn_enter Tryz.func146 rfl rfl (by kernel_rfl) rfl ?_
  intro w0
  repeat (first | (refine isx_call ?_; refine lx_gcallt (load_fn b 0 0 (rest.length + 2) _ rfl) ((fun w hm => in_ro (row_blk 0 rfl (by simp) hm) (in_nil hm) rfl)) rfl rfl rfl rfl rfl rfl rfl ?_) | refine wzt ?_ | (refine wzb ?_; intro b_) | fail)
  refine cx_cond rfl (fun _ => ?_) (fun h => absurd h (by decide))
  repeat (first | refine wz ?_ | (refine wzb ?_; intro b_) | fail)
  refine lx_call (slow_fn b g cap rest rest' T Lx hclo hx) [.blk b (.int .u32 0 :: .int .i32 0 :: rest) T] Lx (Gives.refl _) (fun w hm => hm.again [b] hx') (fun g hg => ⟨_, List.mem_cons_self .., rfl, (List.mem_singleton.1 hg).symm⟩) (fun _ _ => trivial) rfl rfl rfl rfl rfl rfl rfl (by simp) ?_
  rintro v_ Lo_ ⟨rfl, rfl⟩
  repeat (first | refine wz ?_ | (refine wzb ?_; intro b_) | fail)
  exact bq_end (ret_none rfl) [_] (Gives.left _ _) rfl ⟨rfl, rfl⟩
/-- done already -/
theorem done_fn (b : Nat) (fv : Value) (cs : List Value) (m : Nat) (hd : cs[0]? = some (.int .u32 1)) :
    Fn Tryz.prog 146 [.pointer (some ⟨b, 0, none⟩), fv] [.ro (some ⟨b, 0, none⟩) m 1 cs] [] fun v Lo => v = .tuple #[] ∧ Lo = [] := by
  refine fn_enter Tryz.func146 rfl rfl (by kernel_rfl) rfl ?_
  intro w0
  repeat (first | (refine isx_call ?_; refine lx_gcallt (load_fn b 1 0 m _ hd) ((fun w hm => in_ro (row_ro 0 rfl hm) (in_nil hm) rfl)) rfl rfl rfl rfl rfl rfl rfl ?_) | refine wzt ?_ | (refine wzb ?_; intro b_) | fail)
  refine cx_cond rfl (fun h => absurd h (by decide)) (fun _ => ?_)
  repeat (first | refine wz ?_ | (refine wzb ?_; intro b_) | fail)
  exact bq_end (ret_none rfl) [] (Gives.nil _) rfl ⟨rfl, rfl⟩
end Go.Proofs.YtmochicneilhhaaGreat.once
namespace Go.Proofs.YtmochicneilhhaaGreat.crc
abbrev R := BitVec 32
abbrev B := BitVec 8
/-- a register, a digit on -/
def one (c : R) : R := (c >>> 1) ^^^ (if c.getLsbD 0 then 0xEDB88320#32 else 0#32)
def many : Nat → R → R
  | 0, c => c
  | n + 1, c => many n (one c)
theorem xor_swap (a b c d : R) : (a ^^^ b) ^^^ (c ^^^ d) = (a ^^^ c) ^^^ (b ^^^ d) := by
  rw [BitVec.xor_assoc, BitVec.xor_assoc, ← BitVec.xor_assoc b, BitVec.xor_comm b c, BitVec.xor_assoc c]
theorem one_xor (a b : R) : one (a ^^^ b) = one a ^^^ one b := by
  unfold one
  rw [BitVec.ushiftRight_xor_distrib, xor_swap, BitVec.getLsbD_xor]
  congr 1
  cases a.getLsbD 0 <;> cases b.getLsbD 0 <;> simp
theorem many_xor : ∀ (n : Nat) (a b : R), many n (a ^^^ b) = many n a ^^^ many n b
  | 0, _, _ => rfl
  | n + 1, a, b => by rw [many, one_xor, many_xor n]; rfl
theorem many_add : ∀ (m n : Nat) (a : R), many (m + n) a = many n (many m a)
  | 0, n, a => by rw [Nat.zero_add]; rfl
  | m + 1, n, a => by rw [Nat.add_right_comm, many, many_add m n]; rfl
/-- digits that are shifted out are 0 -/
theorem many_shl : ∀ (k : Nat) (x : R), x.toNat < 2 ^ (32 - k) → k ≤ 32 → many k (x <<< k) = x
  | 0, x, _, _ => by simp [many]
  | k + 1, x, h, hk => by
    have h0 : (x <<< (k + 1)).getLsbD 0 = false := by simp
    have h1 : one (x <<< (k + 1)) = x <<< k := by
      unfold one
      rw [h0]
      simp only [Bool.false_eq_true, if_false, BitVec.xor_zero]
      apply BitVec.eq_of_toNat_eq
      have hlt : x.toNat < 2 ^ (32 - (k + 1)) := h
      have h2 : x.toNat <<< (k + 1) < 2 ^ 32 := by
        rw [Nat.shiftLeft_eq]
        calc x.toNat * 2 ^ (k + 1) < 2 ^ (32 - (k + 1)) * 2 ^ (k + 1) := Nat.mul_lt_mul_of_pos_right hlt (Nat.two_pow_pos _)
          _ = 2 ^ 32 := by rw [← Nat.pow_add]; congr 1; omega
      have h3 : x.toNat <<< k < 2 ^ 32 := by
        refine Nat.lt_of_le_of_lt ?_ h2
        rw [Nat.shiftLeft_eq, Nat.shiftLeft_eq]
        exact Nat.mul_le_mul_left _ (Nat.pow_le_pow_right (by decide) (Nat.le_succ k))
      rw [BitVec.toNat_ushiftRight, BitVec.toNat_shiftLeft, BitVec.toNat_shiftLeft, Nat.mod_eq_of_lt h2, Nat.mod_eq_of_lt h3, Nat.shiftLeft_eq, Nat.shiftLeft_eq, Nat.shiftRight_eq_div_pow, Nat.pow_succ, ← Nat.mul_assoc, Nat.pow_one, Nat.mul_div_cancel _ (by decide)]
    rw [many, h1]
    exact many_shl k x (Nat.lt_of_lt_of_le h (Nat.pow_le_pow_right (by decide) (by omega))) (by omega)
/-- a byte taken -/
def take (c : R) (b : B) : R := many 8 (c ^^^ b.setWidth 32)
def takes (c : R) (l : List B) : R := l.foldl take c
theorem takes_append (c : R) (l m : List B) : takes c (l ++ m) = takes (takes c l) m := List.foldl_append ..
/-- what a register is besides its last eight digits -/
theorem many8_split (x : R) : many 8 x = many 8 ((x.setWidth 8).setWidth 32) ^^^ (x >>> 8) := by
  have h : x = (x.setWidth 8).setWidth 32 ^^^ ((x >>> 8) <<< 8) := by
    apply BitVec.eq_of_getLsbD_eq
    intro i hi
    simp only [BitVec.getLsbD_xor, BitVec.getLsbD_setWidth, BitVec.getLsbD_shiftLeft, BitVec.getLsbD_ushiftRight]
    by_cases h8 : i < 8
    · simp [h8, hi]
    · have : 8 + (i - 8) = i := by omega
      simp [h8, hi, this]
  have h2 : many 8 ((x >>> 8) <<< 8) = x >>> 8 := by
    refine many_shl 8 _ ?_ (by decide)
    rw [BitVec.toNat_ushiftRight, Nat.shiftRight_eq_div_pow]
    have := x.isLt
    omega
  conv => lhs; rw [h, many_xor, h2]
/-- the table's row -/
def row (i : B) : R := many 8 (i.setWidth 32)
theorem take_row (c : R) (b : B) : take c b = row (c.setWidth 8 ^^^ b) ^^^ (c >>> 8) := by
  unfold take row
  rw [many8_split]
  congr 1
  · congr 1
    apply BitVec.eq_of_getLsbD_eq
    intro i hi
    by_cases h8 : i < 8 <;> simp [h8, hi]
  · apply BitVec.eq_of_getLsbD_eq
    intro i hi
    simp [BitVec.getLsbD_ushiftRight]
def e (k : Nat) : R := many k 1#32
attribute [local irreducible] many
end Go.Proofs.YtmochicneilhhaaGreat.crc
namespace Go.Proofs.YtmochicneilhhaaGreat.chk
open Go.RowKit Go.Proofs.YtmochicneilhhaaGreat.crc
def rowI (i : Nat) : Value := .int .u32 (crc.row (BitVec.ofNat 8 i)).toNat
def rowsI (i : Nat) : List Value := (List.range 256).map fun j => if j < i then rowI j else .int .u32 0
def tabC (d m : Int) (i : Nat) : List Value := .int .u32 d :: .int .i32 m :: .int .u32 0 :: rowsI i
theorem rowsI_len (i : Nat) : (rowsI i).length = 256 := by simp [rowsI]
theorem rowsI_zero : rowsI 0 = List.replicate 256 (.int .u32 0) := by
  simp only [rowsI, Nat.not_lt_zero, if_false, List.map_const', List.length_range]
theorem rowsI_set (i : Nat) : (rowsI i).set i (rowI i) = rowsI (i + 1) := by
  apply List.ext_getElem
  · simp [rowsI]
  · intro j h1 h2
    simp only [rowsI, List.getElem_set, List.getElem_map, List.getElem_range]
    by_cases hj : i = j
    · subst hj; simp
    · by_cases hl : j < i
      · simp [hj, hl, show j < i + 1 by omega]
      · simp [hj, hl, show ¬ j < i + 1 by omega]
theorem setL_one : ∀ (cs : List Value) (i : Nat) (v : Value), i < cs.length → setL cs i [v] = cs.set i v
  | [], _, _, h => absurd h (Nat.not_lt_zero _)
  | c :: cs, 0, v, _ => by cases cs <;> simp [setL]
  | c :: cs, i + 1, v, h => by rw [setL, setL_one cs i v (by simpa using h), List.set_cons_succ]
theorem tabC_set (d m : Int) {i : Nat} (hi : i < 256) : setL (tabC d m i) (3 + i) [rowI i] = tabC d m (i + 1) := by
  rw [setL_one _ _ _ (by simp [tabC, rowsI_len]; omega), show 3 + i = i + 1 + 1 + 1 by omega]
  simp [tabC, rowsI_set]
theorem tabC_get (d m : Int) (x : B) : (tabC d m 256)[3 + x.toNat]? = some (.int .u32 (crc.row x).toNat) := by
  rw [show 3 + x.toNat = x.toNat + 1 + 1 + 1 by omega]
  have : x.toNat < 256 := x.isLt
  simp [tabC, rowsI, rowI, this]
theorem many_succ (k : Nat) (c : R) : many (k + 1) c = one (many k c) := by rw [many_add]; rfl
theorem one_odd {x : R} (h : (x &&& 1#32 == 1#32) = true) : one x = (x >>> 1) ^^^ 0xEDB88320#32 := by
  have : x.getLsbD 0 = true := by
    have h := congrArg (fun y : R => y.getLsbD 0) (beq_iff_eq.1 h)
    simpa using h
  rw [one, this]
  rfl
theorem one_even {x : R} (h : (x &&& 1#32 == 1#32) = false) : one x = x >>> 1 := by
  have : x.getLsbD 0 = false := by
    cases hb : x.getLsbD 0
    · rfl
    · exfalso
      have h2 : x &&& 1#32 = 1#32 := by
        apply BitVec.eq_of_getLsbD_eq
        intro i hi
        cases i with
        | zero => simpa using hb
        | succ i => simp
      rw [h2] at h
      exact absurd h (by decide)
  rw [one, this]
  simp
theorem row_of {i : Nat} (hi : i < 256) : many 8 (BitVec.ofInt 32 (i : Int)) = crc.row (BitVec.ofNat 8 i) := by
  rw [crc.row, ofInt_nat]
  congr 1
  apply BitVec.eq_of_toNat_eq
  simp only [BitVec.toNat_ofNat, BitVec.toNat_setWidth]
  omega
attribute [local irreducible] LX CX Yl Gives RetIs Fn
attribute [local irreducible] crc.many crc.row crc.one
set_option maxHeartbeats 2000000 in
theorem fill_fn (b bt : Nat) : Fn Tryz.prog 147 [.pointer (some ⟨bt, 0, none⟩)] [.blk b (tabC 0 1 0) 181, .ro (some ⟨bt, 0, none⟩) 1 1 [.pointer (some ⟨b, 0, none⟩)]] [b]
    fun v Lo => v = .tuple #[] ∧ Lo = [.blk b (tabC 0 1 256) 181] := by
  refine fn_enter Tryz.func147 rfl rfl (by kernel_rfl) rfl ?_
  intro w0
  repeat (first | refine wz ?_ | (refine wzb ?_; intro b_) | fail)
  refine cx_loop (α := { i : Nat // i ≤ 256 }) (fun x => [(0, none, .pointer (some ⟨bt, 0, none⟩)), (4, none, .int .i64 x.1)]) (fun x => [.blk b (tabC 0 1 x.1) 181, .ro (some ⟨bt, 0, none⟩) 1 1 [.pointer (some ⟨b, 0, none⟩)]]) (fun x => 256 - x.1)
    ⟨0, Nat.zero_le _⟩ ⟨rfl, rfl, trivial⟩ (Gives.refl _) ?_
  rintro ⟨i, hi⟩
  dsimp only
  repeat (first | refine wz ?_ | (refine wzb ?_; intro b_) | fail)
  refine cx_cond rfl (fun h => ?_) (fun h => ?_)
  · have hi2 : i < 256 := by simp at h; omega
    repeat (first | ((first | (apply lx_u; exact rfl) | (apply lx_g; exact rfl; exact rfl)); first | (apply isy_convert; exact yl_ci (E := EV) uk32 rfl rfl rfl (by first | exact fun _ => rfl | exact fun h => h | exact fun h => (Bool.and_eq_true_iff.1 h).1)) | fail) | refine wz ?_ | (refine wzb ?_; intro b_) | fail)
    have hrow := row_of hi2
    generalize hc0 : BitVec.ofInt 32 (i : Int) = c0 at hrow ⊢
    refine cx_loop (α := { k : Nat // k ≤ 8 }) (fun x => [(0, none, .pointer (some ⟨bt, 0, none⟩)), (1, none, .int .i64 i), (2, none, .int .u32 (crc.many x.1 c0).toNat), (4, none, .int .i64 i), (9, none, .int .i64 x.1)]) (fun _ => [.blk b (tabC 0 1 i) 181, .ro (some ⟨bt, 0, none⟩) 1 1 [.pointer (some ⟨b, 0, none⟩)]]) (fun x => 8 - x.1)
      ⟨0, Nat.zero_le _⟩ ⟨rfl, rfl, by unfold crc.many; rfl, rfl, rfl, trivial⟩ (Gives.refl _) ?_
    rintro ⟨k, hk⟩
    dsimp only
    repeat (first | refine wz ?_ | (refine wzb ?_; intro b_) | fail)
    refine cx_cond rfl (fun h => ?_) (fun h => ?_)
    · have hk2 : k < 8 := by simp at h; omega
      repeat (first | ((first | (apply lx_u; exact rfl) | (apply lx_g; exact rfl; exact rfl)); first | (apply isy_bin_and; exact yl_band uk32 _ 1#32 rfl rfl rfl rfl (by first | exact fun _ => rfl | exact fun h => h | exact fun h => (Bool.and_eq_true_iff.1 h).1) (by first | exact fun _ => rfl | exact fun h => h | exact fun h => (Bool.and_eq_true_iff.1 h).1)) | (apply isy_bin_shr; exact yl_bshr uk32 _ 1 rfl rfl rfl rfl (by first | exact fun _ => rfl | exact fun h => h | exact fun h => (Bool.and_eq_true_iff.1 h).1) (by first | exact fun _ => rfl | exact fun h => h | exact fun h => (Bool.and_eq_true_iff.1 h).1)) | (apply isy_bin_eql; exact yl_beq _ 1#32 rfl rfl rfl rfl (by first | exact fun _ => rfl | exact fun h => h | exact fun h => (Bool.and_eq_true_iff.1 h).1) (by first | exact fun _ => rfl | exact fun h => h | exact fun h => (Bool.and_eq_true_iff.1 h).1)) | fail) | refine wz ?_ | (refine wzb ?_; intro b_) | fail)
      refine cx_cond rfl (fun h1 => ?_) (fun h1 => ?_)
      · repeat (first | ((first | (apply lx_u; exact rfl) | (apply lx_g; exact rfl; exact rfl)); first | (apply isy_bin_xor; exact yl_xor uk32 _ 0xEDB88320#32 rfl rfl rfl rfl (by first | exact fun _ => rfl | exact fun h => h | exact fun h => (Bool.and_eq_true_iff.1 h).1) (by first | exact fun _ => rfl | exact fun h => h | exact fun h => (Bool.and_eq_true_iff.1 h).1)) | fail) | refine wz ?_ | (refine wzb ?_; intro b_) | fail)
        exact ⟨⟨k + 1, by omega⟩, ⟨rfl, rfl, slot_int (by dsimp only; rw [many_succ, one_odd h1]), rfl, slot_int (by dsimp only; omega), trivial⟩, Gives.refl _, by dsimp only; omega⟩
      · repeat (first | refine wz ?_ | (refine wzb ?_; intro b_) | fail)
        exact ⟨⟨k + 1, by omega⟩, ⟨rfl, rfl, slot_int (by dsimp only; rw [many_succ, one_even h1]), rfl, slot_int (by dsimp only; omega), trivial⟩, Gives.refl _, by dsimp only; omega⟩
    · obtain rfl : k = 8 := by simp at h; omega
      repeat (first | ((first | (apply lx_u; exact rfl) | (apply lx_g; exact rfl; exact rfl)); first | (apply isy_indexAddr; exact yl_indexP (E := EV) rfl rfl rfl rfl (by first | exact fun _ => rfl | exact fun h => h | exact fun h => (Bool.and_eq_true_iff.1 h).1) (by first | exact fun _ => rfl | exact fun h => h | exact fun h => (Bool.and_eq_true_iff.1 h).1) (fun _ => by omega)) | fail) | (refine isx_store ?_; refine lx_storeV (E := EV) 0 rfl rfl rfl rfl rfl rfl rfl rfl (by show 3 + i + 1 ≤ (tabC 0 1 i).length; simp [tabC, rowsI_len]; omega) rfl (fun _ => trivial) ?_) | refine wz ?_ | (refine wzb ?_; intro b_) | fail)
      refine ⟨⟨i + 1, by omega⟩, ⟨rfl, slot_int (by dsimp only; omega), trivial⟩, ?_, by dsimp only; omega⟩
      dsimp only
      rw [← tabC_set 0 1 hi2, rowI, ← hrow]
      exact Gives.refl _
  · obtain rfl : i = 256 := by simp at h; omega
    repeat (first | refine wz ?_ | (refine wzb ?_; intro b_) | fail)
    exact bq_end (ret_none rfl) [_] (Gives.pick [0] (by decide) rfl) rfl ⟨rfl, rfl⟩
end Go.Proofs.YtmochicneilhhaaGreat.chk
