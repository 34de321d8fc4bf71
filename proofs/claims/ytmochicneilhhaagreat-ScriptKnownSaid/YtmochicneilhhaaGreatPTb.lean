/- scripts: the reader of bytes. scripts: a configuration read. -/
import Derived.Test.YtmochicneilhhaaGreatPGo
import Derived.Test.YtmochicneilhhaaGreatPGw
import Derived.Test.YtmochicneilhhaaGreatPIv
import Derived.Test.YtmochicneilhhaaGreatPPkb
namespace Go.Proofs.YtmochicneilhhaaGreat.sc
open Go.RowKit Go.Proofs.YtmochicneilhhaaGreat.pk
/-- the byte at a place; 0 behind the end -/
def at_ (l : List B8) (i : Nat) : Nat := match l[i]? with
  | some x => x.toNat
  | none => 0
theorem at_lt (l : List B8) (i : Nat) : at_ l i < 256 := by
  unfold at_
  split
  · rename_i x _; exact x.isLt
  · decide
/-- a reader of the bytes l, which lie at A; v: how many it was asked for -/
structure Rd (A : Option Addr) (l : List B8) where
  B : Option Addr
  c : Nat
  v : Nat
  hc : l.length - v ≤ c
  hr : ∀ w : World, Row w w.heap.size 1 A l.length (bvs l) → Row w w.heap.size 1 B (l.length - v) (bvs (l.drop v)) ∧ ∀ b, (Ck.ro B (l.length - v) 1 (bvs (l.drop v))).on b → (Ck.ro A l.length 1 (bvs l)).on b
def Rd.nx {A : Option Addr} {l : List B8} (r : Rd A l) : Rd A l :=
  if h : r.v < l.length then ⟨cutA r.B r.c 1 1, r.c - 1, r.v + 1, by have := r.hc; omega, fun w hw => by
    obtain ⟨h1, h2⟩ := r.hr w hw
    have h3 := Row.sufb (lo := 1) (c := r.c) h1 (by omega) r.hc
    rw [List.drop_drop] at h3
    have e : l.length - r.v - 1 = l.length - (r.v + 1) := by omega
    rw [e] at h3
    refine ⟨h3, fun b hb => h2 b ?_⟩
    obtain ⟨hq, hb⟩ := hb
    obtain ⟨b0, off, hB, _, _⟩ := h1.2 (by omega)
    rw [hB, cutA] at hb
    refine ⟨by omega, ?_⟩
    rw [hB]
    split at hb
    · exact hb
    · rw [Option.map_some, add_at] at hb
      exact hb⟩
  else ⟨r.B, r.c, r.v + 1, by have := r.hc; omega, fun w hw => by
    obtain ⟨h1, h2⟩ := r.hr w hw
    have e : l.length - (r.v + 1) = l.length - r.v := by omega
    have e2 : l.drop (r.v + 1) = l.drop r.v := by rw [List.drop_of_length_le (by omega), List.drop_of_length_le (by omega)]
    rw [e, e2]
    exact ⟨h1, h2⟩⟩
theorem Rd.nx_v {A : Option Addr} {l : List B8} (r : Rd A l) : r.nx.v = r.v + 1 := by
  unfold Rd.nx
  split <;> rfl
abbrev Rd.blk {A : Option Addr} {l : List B8} (r : Rd A l) (b : Nat) (k : Int) : Ck := .blk b [.slice r.B (l.length - r.v) r.c, .int .i64 k] 83
theorem Rd.gives {A : Option Addr} {l : List B8} (r : Rd A l) (i : Nat) {L : List Ck} (hk : L[i]? = some (.ro A l.length 1 (bvs l))) : Gives L (.ro r.B (l.length - r.v) 1 (bvs (l.drop r.v)) :: L) := Gives.add i hk rfl rfl fun w hw => r.hr w hw
theorem yl_convE {P : Program} {n : Nat} {t : Fr} {L : List Ck} {p c1 : Option Bool} {dst : Option Tmp} {S T : TypeId} {X : Operand} {ty : TypeId} {pos : String} {after : Array Edge} {guard : Option (Nat × Bool)} {u v : Value} (hx : ov t X = some (c1, u)) (h : ∀ w, (convert S T u).run P w = .ok v w) (h1 : cb p = true → cb c1 = true) :
    Yl P n t L p ⟨dst, .convert S T X, ty, pos, after, guard⟩ v := fun hp M a' w0 hf _ => by
  unfold execOp
  refine run_v ?_
  rw [hf.ov hx (h1 hp)]
  exact h w0
theorem rune0 (w : World) : (convert 21 9 (.int .i32 97)).run Tryz.prog w = .ok (.string (sb [97#8])) w := by
  simp [convert, run_underlying Tryz.underlying21, run_underlying Tryz.underlying9]
  rfl
theorem rune1 (w : World) : (convert 21 9 (.int .i32 98)).run Tryz.prog w = .ok (.string (sb [98#8])) w := by
  simp [convert, run_underlying Tryz.underlying21, run_underlying Tryz.underlying9]
  rfl
theorem rune2 (w : World) : (convert 21 9 (.int .i32 99)).run Tryz.prog w = .ok (.string (sb [99#8])) w := by
  simp [convert, run_underlying Tryz.underlying21, run_underlying Tryz.underlying9]
  rfl
theorem rune3 (w : World) : (convert 21 9 (.int .i32 100)).run Tryz.prog w = .ok (.string (sb [100#8])) w := by
  simp [convert, run_underlying Tryz.underlying21, run_underlying Tryz.underlying9]
  rfl
theorem rune (n : Nat) (hn : n < 4) (w : World) : (convert 21 9 (.int .i32 (IntKind.i32.wrap (97 + (n : Int))))).run Tryz.prog w = .ok (.string (sb [BitVec.ofNat 8 (97 + n)])) w := by
  have : n = 0 ∨ n = 1 ∨ n = 2 ∨ n = 3 := by omega
  rcases this with rfl | rfl | rfl | rfl
  · exact rune0 w
  · exact rune1 w
  · exact rune2 w
  · exact rune3 w
attribute [local irreducible] LX CX Yl Gives RetIs Fn
theorem next_fn (b : Nat) (k : Int) {A : Option Addr} {l : List B8} (r : Rd A l) (hl : l.length ≤ 9223372036854775807) : Fn Tryz.prog 66 [.pointer (some ⟨b, 0, none⟩)] [r.blk b k, .ro A l.length 1 (bvs l)] [b] fun v Lo => v = .int .i64 (at_ l r.v) ∧ Lo = [r.nx.blk b k] := by
  by_cases h : r.v < l.length
  · obtain ⟨x, hx⟩ : ∃ x, l[r.v]? = some x := ⟨_, List.getElem?_eq_getElem h⟩
    have hx0 : (bvs (l.drop r.v))[mulI 0 1]? = some (bv x) := bvs_get (by rw [List.getElem?_drop]; exact hx)
    have e1 : at_ l r.v = x.toNat := by unfold at_; rw [hx]
    have h0 : (((l.length - r.v : Nat) : Int) == 0) = false := by rw [beq_eq_false_iff_ne]; omega
    have hn : r.nx = ⟨cutA r.B r.c 1 1, r.c - 1, r.v + 1, _, _⟩ := dif_pos h
    rw [e1, hn]
    refine fn_enter Tryz.func66 rfl rfl (by kernel_rfl) rfl ?_; intro w0
    refine cx_weakL (r.gives 1 rfl) ?_
    repeat (first | ((first | (apply lx_gt; exact rfl; exact rfl; exact rfl) | (apply lx_u; exact rfl) | (apply lx_g; exact rfl; exact rfl)); first | (apply isy_load; exact q_lv 1 rfl rfl rfl rfl rfl) | (apply isy_bin_eql; exact yl_false (yl_op (E := EV) rfl) (fun _ => h0)) | fail) | refine wzf ?_ | (refine wzb ?_; intro b_) | fail)
    refine cx_cond rfl (fun h => absurd h (by decide)) (fun _ => ?_)
    repeat (first | ((first | (apply lx_u; exact rfl) | (apply lx_g; exact rfl; exact rfl)); first | (apply isy_load; exact q_lv 1 rfl rfl rfl rfl rfl) | (apply isy_indexAddr; exact q_ix 0 rfl rfl rfl rfl rfl) | (apply isy_load; exact q_li 0 rfl rfl rfl rfl hx0) | (apply isy_slice; exact q_sll rfl rfl rfl rfl) | (apply isy_convert; exact q_cn rfl rfl rfl) | fail) | (refine isx_store ?_; refine gS 1 rfl rfl rfl rfl rfl rfl rfl rfl rfl rfl ?_) | refine wz ?_ | (refine wzb ?_; intro b_) | fail)
    exact bq_ret (ret_tmp rfl rfl) [_] (Gives.pick [1] (by decide) rfl) rfl ⟨rfl, rfl⟩
  · have e1 : at_ l r.v = 0 := by unfold at_; rw [List.getElem?_eq_none (by omega)]
    have e0 : l.length - r.v = 0 := by omega
    have e0' : l.length - (r.v + 1) = 0 := by omega
    have hn : r.nx = ⟨r.B, r.c, r.v + 1, _, _⟩ := dif_neg h
    rw [e1, hn]
    show Fn Tryz.prog 66 [.pointer (some ⟨b, 0, none⟩)] [.blk b [.slice r.B (l.length - r.v) r.c, .int .i64 k] 83, .ro A l.length 1 (bvs l)] [b] fun v Lo => v = .int .i64 0 ∧ Lo = [.blk b [.slice r.B (l.length - (r.v + 1)) r.c, .int .i64 k] 83]
    rw [e0, e0']
    refine fn_enter Tryz.func66 rfl rfl (by kernel_rfl) rfl ?_; intro w0
    repeat (first | ((first | (apply lx_gt; exact rfl; exact rfl; exact rfl) | (apply lx_u; exact rfl) | (apply lx_g; exact rfl; exact rfl)); first | (apply isy_load; exact q_lv 0 rfl rfl rfl rfl rfl) | (apply isy_bin_eql; exact yl_true (yl_op (E := EV) rfl) (fun _ => rfl)) | fail) | refine wzf ?_ | (refine wzb ?_; intro b_) | fail)
    refine cx_cond rfl (fun _ => ?_) (fun h => absurd h (by decide))
    repeat (first | refine wz ?_ | (refine wzb ?_; intro b_) | fail)
    exact bq_ret (ret_tmp rfl rfl) [_] (Gives.pick [0] (by decide) rfl) rfl ⟨rfl, rfl⟩
theorem by_fn (b : Nat) (k : Int) {A : Option Addr} {l : List B8} (r : Rd A l) (n : Nat) (hn : 0 < n) (hl : l.length ≤ 9223372036854775807) : Fn Tryz.prog 65 [.pointer (some ⟨b, 0, none⟩), .int .i64 n] [r.blk b k, .ro A l.length 1 (bvs l)] [b] fun v Lo => v = .int .i64 (at_ l r.v % n : Nat) ∧ Lo = [r.nx.blk b k] := by
  have h := next_fn b k r hl
  have e : ((at_ l r.v : Nat) : Int).tmod (n : Int) = ((at_ l r.v % n : Nat) : Int) := by
    rw [Int.tmod_eq_emod_of_nonneg (by omega)]
    exact (Int.natCast_emod _ _).symm
  generalize r.nx = r' at *
  refine fn_enter Tryz.func65 rfl rfl (by kernel_rfl) rfl ?_
  intro w0
  repeat (first | ((first | (apply lx_u; exact rfl) | (apply lx_g; exact rfl; exact rfl)); first | (apply isy_bin_rem; exact yl_eq (q_rem rfl rfl) (fun _ => congrArg (Value.int .i64) e)) | fail) | (refine isx_call ?_; refine k_call (h) [0, 1] [0] [1] rfl rfl rfl rfl rfl rfl rfl rfl ?_; rintro v_ Lo_ ⟨rfl, rfl⟩) | refine wz ?_ | (refine wzb ?_; intro b_) | fail)
  exact bq_ret (ret_tmp rfl rfl) [_] (Gives.pick [0] (by decide) rfl) rfl ⟨rfl, rfl⟩
def small (n : Nat) : Int := if n ≥ 128 then (n : Int) - 256 else n
theorem small_wrap {n : Nat} (h : n < 256) : IntKind.i64.wrap (IntKind.i8.wrap (n : Int)) = small n := by
  have e : IntKind.i8.wrap (n : Int) = small n := by
    unfold small IntKind.wrap
    simp [IntKind.bits, IntKind.signed]
    split <;> omega
  rw [e, IntKind.wrap_i64]
  unfold small
  split <;> omega
theorem small_fn (b : Nat) (k : Int) {A : Option Addr} {l : List B8} (r : Rd A l) (hl : l.length ≤ 9223372036854775807) : Fn Tryz.prog 99 [.pointer (some ⟨b, 0, none⟩)] [r.blk b k, .ro A l.length 1 (bvs l)] [b] fun v Lo => v = .int .i64 (small (at_ l r.v)) ∧ Lo = [r.nx.blk b k] := by
  have h := next_fn b k r hl
  generalize r.nx = r' at *
  refine fn_enter Tryz.func99 rfl rfl (by kernel_rfl) rfl ?_
  intro w0
  repeat (first | (refine isx_call ?_; refine k_call (h) [0, 1] [0] [1] rfl rfl rfl rfl rfl rfl rfl rfl ?_; rintro v_ Lo_ ⟨rfl, rfl⟩) | refine wz ?_ | (refine wzb ?_; intro b_) | fail)
  exact bq_ret (ret_tmp rfl rfl) [_] (Gives.pick [0] (by decide) rfl) rfl ⟨by rw [small_wrap (at_lt l r.v)], rfl⟩
theorem letter_fn (n : Nat) (hn : n < 4) : Fn Tryz.prog 126 [.int .i64 n] [] [] fun v Lo => v = .string (sb [BitVec.ofNat 8 (97 + n)]) ∧ Lo = [] := by
  have hr := rune n hn
  refine fn_enter Tryz.func126 rfl rfl (by kernel_rfl) rfl ?_
  intro w0
  repeat (first | refine wz ?_ | (refine wzb ?_; intro b_) | fail)
  repeat (first | ((first | (apply lx_u; exact rfl) | (apply lx_g; exact rfl; exact rfl)); first | exact yl_convE rfl hr (by first | exact fun _ => rfl | exact fun h => h | exact fun h => (Bool.and_eq_true_iff.1 h).1) | fail) | refine wz ?_ | (refine wzb ?_; intro b_) | fail)
  exact bq_ret (ret_tmp rfl rfl) [] (Gives.nil _) rfl ⟨rfl, rfl⟩
def keyQ (n : Nat) : List B8 := [BitVec.ofNat 8 (97 + n % 4)]
def edgeQ (n : Nat) : List B8 := if n % 5 < 4 then [BitVec.ofNat 8 (97 + n % 5)] else []
theorem key_fn (b : Nat) (k : Int) {A : Option Addr} {l : List B8} (r : Rd A l) (hl : l.length ≤ 9223372036854775807) : Fn Tryz.prog 98 [.pointer (some ⟨b, 0, none⟩)] [r.blk b k, .ro A l.length 1 (bvs l)] [b] fun v Lo => v = .string (sb (keyQ (at_ l r.v))) ∧ Lo = [r.nx.blk b k] := by
  have h := by_fn b k r 4 (by decide) hl
  have hle := letter_fn (at_ l r.v % 4) (Nat.mod_lt _ (by decide))
  unfold keyQ
  generalize r.nx = r' at *
  generalize at_ l r.v % 4 = q at *
  refine fn_enter Tryz.func98 rfl rfl (by kernel_rfl) rfl ?_
  intro w0
  repeat (first | (refine isx_call ?_; refine k_call (h) [0, 1] [0] [1] rfl rfl rfl rfl rfl rfl rfl rfl ?_; rintro v_ Lo_ ⟨rfl, rfl⟩) | (refine isx_call ?_; refine k_gcall (hle) (fun _ hm => in_nil hm) rfl rfl rfl rfl rfl rfl ?_) | refine wz ?_ | (refine wzb ?_; intro b_) | fail)
  exact bq_ret (ret_tmp rfl rfl) [_] (Gives.pick [0] (by decide) rfl) rfl ⟨rfl, rfl⟩
theorem edge_fn (b : Nat) (k : Int) {A : Option Addr} {l : List B8} (r : Rd A l) (hl : l.length ≤ 9223372036854775807) : Fn Tryz.prog 145 [.pointer (some ⟨b, 0, none⟩)] [r.blk b k, .ro A l.length 1 (bvs l)] [b] fun v Lo => v = .string (sb (edgeQ (at_ l r.v))) ∧ Lo = [r.nx.blk b k] := by
  have h := by_fn b k r 5 (by decide) hl
  unfold edgeQ
  generalize r.nx = r' at *
  generalize at_ l r.v % 5 = q at *
  refine fn_enter Tryz.func145 rfl rfl (by kernel_rfl) rfl ?_
  intro w0
  repeat (first | (refine isx_call ?_; refine k_call (h) [0, 1] [0] [1] rfl rfl rfl rfl rfl rfl rfl rfl ?_; rintro v_ Lo_ ⟨rfl, rfl⟩) | refine wz ?_ | (refine wzb ?_; intro b_) | fail)
  refine cx_cond rfl (fun h => ?_) (fun h => ?_)
  · have hq : q < 4 := by simp at h; omega
    have hle := letter_fn q hq
    rw [if_pos hq]
    repeat (first | (refine isx_call ?_; refine k_gcall (hle) (fun _ hm => in_nil hm) rfl rfl rfl rfl rfl rfl ?_) | refine wz ?_ | (refine wzb ?_; intro b_) | fail)
    exact bq_ret (ret_tmp rfl rfl) [_] (Gives.pick [0] (by decide) rfl) rfl ⟨rfl, rfl⟩
  · have hq : ¬ q < 4 := by simp at h; omega
    rw [if_neg hq]
    repeat (first | refine wz ?_ | (refine wzb ?_; intro b_) | fail)
    exact bq_ret (ret_tmp rfl rfl) [_] (Gives.pick [0] (by decide) rfl) rfl ⟨rfl, rfl⟩
end Go.Proofs.YtmochicneilhhaaGreat.sc
namespace Go.Proofs.YtmochicneilhhaaGreat.sc
open Go.RowKit Go.Proofs.YtmochicneilhhaaGreat.pk Go.Proofs.YtmochicneilhhaaGreat.win
/-- the window that two bytes tell: kind, size, slide, gap -/
def winQ (k n : Nat) : Int × Int × Int × Int :=
  if k % 3 = 0 then (1, ((n % 16 : Nat) : Int) + 1, 0, 0)
  else if k % 3 = 1 then (2, (((n % 4 : Nat) : Int) + 1) * (((n / 4 % 4 : Nat) : Int) + 1), ((n % 4 : Nat) : Int) + 1, 0)
  else (3, 0, 0, ((n % 16 : Nat) : Int) + 1)
def wv (x : Int × Int × Int × Int) : Value := .agg #[.int .u8 x.1, .int .i64 x.2.1, .int .i64 x.2.2.1, .int .i64 x.2.2.2]
theorem modN (p d : Nat) : ((p : Nat) : Int).tmod (d : Int) = ((p % d : Nat) : Int) := by
  rw [Int.tmod_eq_emod_of_nonneg (by omega)]
  exact (Int.natCast_emod _ _).symm
theorem quoN (p d : Nat) (h : p ≤ 1000000) : IntKind.i64.wrap ((p : Int).tdiv d) = ((p / d : Nat) : Int) := by
  rw [Int.tdiv_eq_ediv_of_nonneg (by omega), ← Int.natCast_ediv, IntKind.wrap_i64]
  have : p / d ≤ p := Nat.div_le_self _ _
  generalize p / d = q at *
  omega
attribute [local irreducible] LX CX Yl Gives RetIs Fn
set_option maxRecDepth 100000 in
theorem window_fn (b : Nat) (k : Int) {A : Option Addr} {l : List B8} (r : Rd A l) (hl : l.length ≤ 9223372036854775807) : Fn Tryz.prog 64 [.pointer (some ⟨b, 0, none⟩)] [r.blk b k, .ro A l.length 1 (bvs l)] [b] fun v Lo => v = wv (winQ (at_ l r.v) (at_ l (r.v + 1))) ∧ Lo = [r.nx.nx.blk b k] := by
  have h1 := by_fn b k r 3 (by decide) hl
  have h2 := next_fn b k r.nx hl
  rw [r.nx_v] at h2
  have hn := at_lt l (r.v + 1)
  generalize r.nx.nx = r2 at *
  generalize r.nx = r1 at *
  unfold winQ wv
  generalize at_ l (r.v + 1) = n at *
  generalize at_ l r.v % 3 = q at *
  have m16 : (n : Int).tmod 16 = ((n % 16 : Nat) : Int) := modN n 16
  have m4 : (n : Int).tmod 4 = ((n % 4 : Nat) : Int) := modN n 4
  have q4 : IntKind.i64.wrap ((n : Int).tdiv 4) = ((n / 4 : Nat) : Int) := quoN n 4 (by omega)
  have m44 : ((n / 4 : Nat) : Int).tmod 4 = ((n / 4 % 4 : Nat) : Int) := modN (n / 4) 4
  have b1 := Nat.mod_lt n (show 0 < 16 by decide)
  have b2 := Nat.mod_lt n (show 0 < 4 by decide)
  have b3 := Nat.mod_lt (n / 4) (show 0 < 4 by decide)
  have b4 : (n % 4 + 1) * (n / 4 % 4 + 1) ≤ 16 := Nat.mul_le_mul (show n % 4 + 1 ≤ 4 by omega) (show n / 4 % 4 + 1 ≤ 4 by omega)
  have b5 : 0 ≤ (((n % 4 : Nat) : Int) + 1) * (((n / 4 % 4 : Nat) : Int) + 1) ∧ (((n % 4 : Nat) : Int) + 1) * (((n / 4 % 4 : Nat) : Int) + 1) ≤ 16 := by
    have e : (((n % 4 : Nat) : Int) + 1) * (((n / 4 % 4 : Nat) : Int) + 1) = (((n % 4 + 1) * (n / 4 % 4 + 1) : Nat) : Int) := by push_cast; rfl
    rw [e]
    omega
  generalize n / 4 % 4 = n44 at *
  generalize n / 4 = nq at *
  generalize n % 4 = n4 at *
  generalize n % 16 = n16 at *
  have t1 := ofTumbling_fn ((n16 : Int) + 1)
  have t2 := ofSliding_fn (((n4 : Int) + 1) * ((n44 : Int) + 1)) ((n4 : Int) + 1)
  have t3 := ofSession_fn ((n16 : Int) + 1)
  refine fn_enter Tryz.func64 rfl rfl (by kernel_rfl) rfl ?_
  intro w0
  repeat (first | (refine isx_call ?_; refine k_call (h1) [1, 2] [1] [0, 2] rfl rfl rfl rfl rfl rfl rfl rfl ?_; rintro v_ Lo_ ⟨rfl, rfl⟩) | (refine isx_call ?_; refine k_call (h2) [0, 2] [0] [1, 2] rfl rfl rfl rfl rfl rfl rfl rfl ?_; rintro v_ Lo_ ⟨rfl, rfl⟩) | refine wz ?_ | (refine wzb ?_; intro b_) | fail)
  refine cx_cond rfl (fun h => ?_) (fun h => ?_)
  · have hq : q = 0 := by simp at h; omega
    rw [if_pos hq]
    repeat (first | ((first | (apply lx_u; exact rfl) | (apply lx_g; exact rfl; exact rfl)); first | (apply isy_bin_rem; exact yl_eq (q_rem rfl rfl) (fun _ => congrArg (Value.int .i64) m16)) | fail) | (refine isx_call ?_; refine k_gcall (t1) (fun _ hm => in_nil hm) rfl rfl rfl rfl rfl rfl ?_) | (refine isx_store ?_; refine gS 1 rfl rfl rfl rfl rfl rfl rfl rfl rfl rfl ?_) | refine wz ?_ | (refine wzb ?_; intro b_) | fail)
    exact bq_ret (ret_cell (E := EV) 1 rfl rfl rfl rfl (fun _ => Nat.le_of_ble_eq_true rfl) rfl) [_] (Gives.pick [0] (by decide) rfl) rfl ⟨rfl, rfl⟩
  have hq0 : ¬ q = 0 := by simp at h; omega
  rw [if_neg hq0]
  repeat (first | refine wz ?_ | (refine wzb ?_; intro b_) | fail)
  refine cx_cond rfl (fun h => ?_) (fun h => ?_)
  · have hq : q = 1 := by simp at h; omega
    rw [if_pos hq]
    repeat (first | ((first | (apply lx_u; exact rfl) | (apply lx_g; exact rfl; exact rfl)); first | (apply isy_bin_rem; exact yl_eq (q_rem rfl rfl) (fun _ => congrArg (Value.int .i64) m4)) | (apply isy_bin_quo; exact yl_eq (q_quo rfl rfl) (fun _ => congrArg (Value.int .i64) q4)) | (apply isy_bin_rem; exact yl_eq (q_rem rfl rfl) (fun _ => congrArg (Value.int .i64) m44)) | (apply isy_bin_mul; exact q_mul rfl rfl) | fail) | (refine isx_call ?_; refine k_gcall (t2) (fun _ hm => in_nil hm) rfl rfl rfl rfl rfl rfl ?_) | (refine isx_store ?_; refine gS 1 rfl rfl rfl rfl rfl rfl rfl rfl rfl rfl ?_) | refine wz ?_ | (refine wzb ?_; intro b_) | fail)
    exact bq_ret (ret_cell (E := EV) 1 rfl rfl rfl rfl (fun _ => Nat.le_of_ble_eq_true rfl) rfl) [_] (Gives.pick [0] (by decide) rfl) rfl ⟨rfl, rfl⟩
  · have hq : ¬ q = 1 := by simp at h; omega
    rw [if_neg hq]
    repeat (first | ((first | (apply lx_u; exact rfl) | (apply lx_g; exact rfl; exact rfl)); first | (apply isy_bin_rem; exact yl_eq (q_rem rfl rfl) (fun _ => congrArg (Value.int .i64) m16)) | fail) | (refine isx_call ?_; refine k_gcall (t3) (fun _ hm => in_nil hm) rfl rfl rfl rfl rfl rfl ?_) | (refine isx_store ?_; refine gS 1 rfl rfl rfl rfl rfl rfl rfl rfl rfl rfl ?_) | refine wz ?_ | (refine wzb ?_; intro b_) | fail)
    exact bq_ret (ret_cell (E := EV) 1 rfl rfl rfl rfl (fun _ => Nat.le_of_ble_eq_true rfl) rfl) [_] (Gives.pick [0] (by decide) rfl) rfl ⟨rfl, rfl⟩
def Rd.go {A : Option Addr} {l : List B8} (r : Rd A l) : Nat → Rd A l
  | 0 => r
  | m + 1 => (r.go m).nx
theorem Rd.go_v {A : Option Addr} {l : List B8} (r : Rd A l) : ∀ m, (r.go m).v = r.v + m
  | 0 => rfl
  | m + 1 => by
    show (r.go m).nx.v = _
    rw [Rd.nx_v, r.go_v m, Nat.add_assoc]
/-- the configuration that nine bytes tell -/
def cfgL (l : List B8) (v : Nat) : List Value :=
  let w := winQ (at_ l v) (at_ l (v + 1))
  [.int .u8 w.1, .int .i64 w.2.1, .int .i64 w.2.2.1, .int .i64 w.2.2.2, .int .i64 (at_ l (v + 2) % 32 : Nat), .int .i64 ((at_ l (v + 3) : Int) + 1), .int .i64 (((at_ l (v + 4) % 64 : Nat) : Int) + 1), .int .i64 (((at_ l (v + 5) % 64 : Nat) : Int) + 1), .int .i64 (((at_ l (v + 6) % 16 : Nat) : Int) + 1), .int .i64 (((at_ l (v + 7) % 8 : Nat) : Int) + 1), .int .i64 (((at_ l (v + 8) % 16 : Nat) : Int) + 1)]
set_option maxRecDepth 100000 in
theorem config_fn (b : Nat) (k : Int) {A : Option Addr} {l : List B8} (r : Rd A l) (hl : l.length ≤ 9223372036854775807) : Fn Tryz.prog 36 [.pointer (some ⟨b, 0, none⟩)] [r.blk b k, .ro A l.length 1 (bvs l)] [b] fun v Lo => v = .agg (cfgL l r.v).toArray ∧ Lo = [(r.go 9).blk b k] := by
  have h1 : Fn Tryz.prog 64 [.pointer (some ⟨b, 0, none⟩)] [r.blk b k, .ro A l.length 1 (bvs l)] [b] fun v Lo => v = wv (winQ (at_ l r.v) (at_ l (r.v + 1))) ∧ Lo = [(r.go 2).blk b k] := window_fn b k r hl
  have h2 := by_fn b k (r.go 2) 32 (by decide) hl
  have h3 := next_fn b k (r.go 3) hl
  have h4 := by_fn b k (r.go 4) 64 (by decide) hl
  have h5 := by_fn b k (r.go 5) 64 (by decide) hl
  have h6 := by_fn b k (r.go 6) 16 (by decide) hl
  have h7 := by_fn b k (r.go 7) 8 (by decide) hl
  have h8 := by_fn b k (r.go 8) 16 (by decide) hl
  have e : ∀ m, (r.go m).nx = r.go (m + 1) := fun _ => rfl
  rw [e, r.go_v] at h2 h3 h4 h5 h6 h7 h8
  have n3 := at_lt l (r.v + 3)
  have n4 := Nat.mod_lt (at_ l (r.v + 4)) (show 0 < 64 by decide)
  have n5 := Nat.mod_lt (at_ l (r.v + 5)) (show 0 < 64 by decide)
  have n6 := Nat.mod_lt (at_ l (r.v + 6)) (show 0 < 16 by decide)
  have n7 := Nat.mod_lt (at_ l (r.v + 7)) (show 0 < 8 by decide)
  have n8 := Nat.mod_lt (at_ l (r.v + 8)) (show 0 < 16 by decide)
  unfold cfgL
  unfold wv at h1
  dsimp only
  generalize winQ (at_ l r.v) (at_ l (r.v + 1)) = w at *
  generalize at_ l (r.v + 3) = a3 at *
  generalize at_ l (r.v + 2) % 32 = a2 at *
  generalize at_ l (r.v + 4) % 64 = a4 at *
  generalize at_ l (r.v + 5) % 64 = a5 at *
  generalize at_ l (r.v + 6) % 16 = a6 at *
  generalize at_ l (r.v + 7) % 8 = a7 at *
  generalize at_ l (r.v + 8) % 16 = a8 at *
  clear e
  generalize r.go 9 = r9 at *
  generalize r.go 8 = r8 at *
  generalize r.go 7 = r7 at *
  generalize r.go 6 = r6 at *
  generalize r.go 5 = r5 at *
  generalize r.go 4 = r4 at *
  generalize r.go 3 = r3 at *
  generalize r.go 2 = r2 at *
  refine fn_enter Tryz.func36 rfl rfl (by kernel_rfl) rfl ?_
  intro w0
  repeat (first | (refine isx_call ?_; refine k_call (h1) [1, 2] [1] [0, 2] rfl rfl rfl rfl rfl rfl rfl rfl ?_; rintro v_ Lo_ ⟨rfl, rfl⟩) | (refine isx_call ?_; refine k_call (h2) [0, 2] [0] [1, 2] rfl rfl rfl rfl rfl rfl rfl rfl ?_; rintro v_ Lo_ ⟨rfl, rfl⟩) | (refine isx_call ?_; refine k_call (h3) [0, 2] [0] [1, 2] rfl rfl rfl rfl rfl rfl rfl rfl ?_; rintro v_ Lo_ ⟨rfl, rfl⟩) | (refine isx_call ?_; refine k_call (h4) [0, 2] [0] [1, 2] rfl rfl rfl rfl rfl rfl rfl rfl ?_; rintro v_ Lo_ ⟨rfl, rfl⟩) | (refine isx_call ?_; refine k_call (h5) [0, 2] [0] [1, 2] rfl rfl rfl rfl rfl rfl rfl rfl ?_; rintro v_ Lo_ ⟨rfl, rfl⟩) | (refine isx_call ?_; refine k_call (h6) [0, 2] [0] [1, 2] rfl rfl rfl rfl rfl rfl rfl rfl ?_; rintro v_ Lo_ ⟨rfl, rfl⟩) | (refine isx_call ?_; refine k_call (h7) [0, 2] [0] [1, 2] rfl rfl rfl rfl rfl rfl rfl rfl ?_; rintro v_ Lo_ ⟨rfl, rfl⟩) | (refine isx_call ?_; refine k_call (h8) [0, 2] [0] [1, 2] rfl rfl rfl rfl rfl rfl rfl rfl ?_; rintro v_ Lo_ ⟨rfl, rfl⟩) | (refine isx_store ?_; refine gS 1 rfl rfl rfl rfl rfl rfl rfl rfl rfl rfl ?_) | refine wz ?_ | (refine wzb ?_; intro b_) | fail)
  exact bq_ret (ret_cell (E := EV) 1 rfl rfl rfl rfl (fun _ => Nat.le_of_ble_eq_true rfl) rfl) [_] (Gives.pick [0] (by decide) rfl) rfl ⟨rfl, rfl⟩
end Go.Proofs.YtmochicneilhhaaGreat.sc
