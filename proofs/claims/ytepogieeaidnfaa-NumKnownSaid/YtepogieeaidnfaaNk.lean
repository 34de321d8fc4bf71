import Derived.Test.YtepogieeaidnfaaGo
import Derived.Test.YtepogieeaidnfaaNumTwo
import Derived.Test.YtepogieeaidnfaaNumSums
import Derived.Test.YtepogieeaidnfaaNumBackAll
import Derived.Test.YtepogieeaidnfaaEnv
import Derived.Test.YtepogieeaidnfaaSc
import Derived.Test.YtepogieeaidnfaaYes
/- The law NumKnown. -/
namespace Go.Proofs.Ytepogieeaidnfaa.num
open Go.RowKit
attribute [local irreducible] LX CX Yl Gives RetIs Fn
abbrev Wf (n : Int) : Prop := (Lit.int .i64 n).wf = true
theorem wf_wrap (n : Int) : Wf (IntKind.i64.wrap n) := by
  rw [IntKind.wrap_i64]
  exact wf_of (by omega) (by omega)
theorem numTwo_fn (a b c : Int) (wa : Wf a) (wb : Wf b) : Fn Try.prog 13 [.int .i64 a, .int .i64 b, .int .i64 c] [] [] fun v Lo => v = .bool true ∧ Lo = [] :=
  Fn.of_calls (goes_of Try.func13 rfl rfl) ⟨rfl, rfl⟩ fun w _ => numTwo_any a b c w wa wb
theorem numFloors_fn (n d : Int) (wa : Wf n) (wb : Wf d) : Fn Try.prog 11 [.int .i64 n, .int .i64 d] [] [] fun v Lo => v = .bool true ∧ Lo = [] :=
  Fn.of_calls (goes_of Try.func11 rfl rfl) ⟨rfl, rfl⟩ fun w _ => numFloors_any n d w wa wb
theorem numSums_fn (A : Option Addr) (n c : Nat) (zs : List Int) (hz : ∀ n ∈ zs, Wf n) (hn : n ≤ 9223372036854775807) : Fn Try.prog 10 [.slice A n c] [.ro A n 1 (ints .i64 zs)] [] fun v Lo => v = .bool true ∧ Lo = [] :=
  Fn.of_calls (goes_of Try.func10 rfl rfl) ⟨rfl, rfl⟩ fun w hm => numSums_any A n c zs w hz (row_ro 0 rfl hm) hn
theorem numBack_fn (A : Option Addr) (len c : Nat) (zs : List Int) (b n d : Int) (hz : ∀ n ∈ zs, Wf n) (hn : len ≤ 9223372036854775807) (hc : len ≤ c) (wb : Wf b) (wn : Wf n) (wd : Wf d) :
    Fn Try.prog 12 [.slice A len c, .int .i64 b, .int .i64 n, .int .i64 d] [.ro A len 1 (ints .i64 zs)] [] fun v Lo => v = .bool true ∧ Lo = [] :=
  Fn.of_calls (goes_of Try.func12 rfl rfl) ⟨rfl, rfl⟩ fun w hm => numBack_any A len c zs b n d w hz (row_ro 0 rfl hm) hn hc wb wn wd
theorem nworks_fn : Fn Try.prog 41 [] [] [] fun v Lo => v = .bool true ∧ Lo = [] :=
  Fn.of_calls (goes_of Try.func41 rfl rfl) ⟨rfl, rfl⟩ fun w _ => works_any w
theorem ints_get {k : IntKind} {zs : List Int} {i : Nat} {x : Int} (h : zs[i]? = some x) : (ints k zs)[mulI i 1]? = some (.int k x) := by
  simp [ints, mulI, h]
theorem back_in {M : Me} {L : List Ck} {w : World} {A : Option Addr} {m c lo hi : Nat} {T : TypeId} {zs : List Int} (hm : Mem M L w) (hk : L[0]? = some (.own A m c T 1 (ints .i64 zs))) (h1 : lo ≤ hi) (h2 : hi ≤ m) (hc : m ≤ c) :
    Mem ⟨w, []⟩ [.ro (cutA A c lo 1) (hi - lo) 1 (ints .i64 ((zs.drop lo).take (hi - lo)))] w := by
  have := (row_own 0 hk hm).cut h1 h2 hc
  rw [cutL_ints] at this
  exact in_ro this (in_nil hm) rfl
theorem row_ints {w : World} {M : Me} {L : List Ck} {b m : Nat} {T : TypeId} {cs : List Value} {zs : List Int} (hm : Mem M L w) (hk : L[0]? = some (.blk b cs T)) (hl : cs.length = m * 1) (hz : cs = ints .i64 zs) : Mem ⟨w, []⟩ [.ro (some ⟨b, 0, none⟩) m 1 (ints .i64 zs)] w :=
  hz ▸ in_ro (row_blk 0 hk hl hm) (in_nil hm) rfl
theorem own_cap {M : Me} {L : List Ck} {w : World} {A : Option Addr} {m c : Nat} {T : TypeId} {sz : Nat} {xs : List Value} (k : Nat) (hm : Mem M L w) (hk : L[k]? = some (.own A m c T sz xs)) : m ≤ c := by
  have h : w.ownsRow 0 T sz (.slice A m c) m xs := hm.get hk
  rcases h.2 with ⟨hv, hm0⟩ | ⟨g, cap, cur, hv, _, _, hmc, _⟩
  · omega
  · cases hv; exact hmc
structure KSt where
  j : Nat
  zs : List Int
  A : Option Addr
  c : Nat
  hj : j ≤ 10
  hl : zs.length = 3 * j
  hz : ∀ z ∈ zs, Wf z
set_option maxHeartbeats 8000000 in
theorem known_fn : Fn Try.prog 14 [] [] [] fun v Lo => v = .bool true ∧ Lo = [] := by
  refine fn_enter Try.func14 rfl rfl (by kernel_rfl) rfl ?_
  intro w0
  repeat (first | (refine isU ?_; refine gU rfl ?_) | (refine isG ?_; refine gG rfl rfl ?_) | (refine isx_box ?_; refine gB rfl rfl rfl rfl rfl rfl ?_; intro b_) | (refine isx_alloc ?_; refine gA rfl rfl rfl rfl rfl rfl rfl ?_; intro b_) | (refine isx_store ?_; refine gS 0 rfl rfl rfl rfl rfl rfl rfl rfl rfl rfl ?_) | (refine isx_store ?_; refine gS 1 rfl rfl rfl rfl rfl rfl rfl rfl rfl rfl ?_) | (refine isx_store ?_; refine gS 2 rfl rfl rfl rfl rfl rfl rfl rfl rfl rfl ?_) | (refine isx_store ?_; refine gS 3 rfl rfl rfl rfl rfl rfl rfl rfl rfl rfl ?_) | (refine isx_row ?_; refine lx_row (E := EV) rfl rfl rfl rfl rfl rfl rfl rfl rfl rfl rfl rfl rfl ?_; intro b_) | refine lx_nil ?_ | with_reducible refine tq_n ?_ | with_reducible refine tq_r ?_ | with_reducible refine tq_e ?_ | with_reducible refine bk_n ?_ | with_reducible refine bk_r ?_ | (with_reducible refine bk_e ?_ ?_; exact rfl) | (with_reducible refine bk_x ?_ ?_; exact rfl) | refine cx_seq ?_ | refine cx_region ?_ | refine cx_block ?_ | refine cx_ret ?_ | refine cx_skip ?_ | refine cx_exit ?_ | fail)
  refine cx_loop (α := KSt) (fun x => [(1, none, .slice x.A (3 * x.j) x.c), (2, none, .int .i64 (7 * x.j : Nat))]) (fun x => [.own x.A (3 * x.j) x.c 2 1 (ints .i64 x.zs)]) (fun x => 10 - x.j)
    ⟨0, [], none, 0, by omega, rfl, by simp⟩ ⟨rfl, rfl, trivial⟩ (Gives.nilown _ _ _) ?_
  rintro ⟨j, zs, A, c, hj, hl, hz⟩
  dsimp only
  repeat (first | (refine isU ?_; refine gU rfl ?_) | (refine isG ?_; refine gG rfl rfl ?_) | (refine isx_box ?_; refine gB rfl rfl rfl rfl rfl rfl ?_; intro b_) | (refine isx_alloc ?_; refine gA rfl rfl rfl rfl rfl rfl rfl ?_; intro b_) | (refine isx_store ?_; refine gS 0 rfl rfl rfl rfl rfl rfl rfl rfl rfl rfl ?_) | (refine isx_store ?_; refine gS 1 rfl rfl rfl rfl rfl rfl rfl rfl rfl rfl ?_) | (refine isx_store ?_; refine gS 2 rfl rfl rfl rfl rfl rfl rfl rfl rfl rfl ?_) | (refine isx_store ?_; refine gS 3 rfl rfl rfl rfl rfl rfl rfl rfl rfl rfl ?_) | (refine isx_row ?_; refine lx_row (E := EV) rfl rfl rfl rfl rfl rfl rfl rfl rfl rfl rfl rfl rfl ?_; intro b_) | refine lx_nil ?_ | with_reducible refine tq_n ?_ | with_reducible refine tq_r ?_ | with_reducible refine tq_e ?_ | with_reducible refine bk_n ?_ | with_reducible refine bk_r ?_ | (with_reducible refine bk_e ?_ ?_; exact rfl) | (with_reducible refine bk_x ?_ ?_; exact rfl) | refine cx_seq ?_ | refine cx_region ?_ | refine cx_block ?_ | refine cx_ret ?_ | refine cx_skip ?_ | refine cx_exit ?_ | fail)
  refine cx_cond rfl (fun h => ?_) (fun h => ?_)
  · have hj2 : j < 10 := by simp at h; omega
    repeat (first | (refine isU ?_; refine gU rfl ?_) | (refine isG ?_; refine gG rfl rfl ?_) | (refine isx_box ?_; refine gB rfl rfl rfl rfl rfl rfl ?_; intro b_) | (refine isx_alloc ?_; refine gA rfl rfl rfl rfl rfl rfl rfl ?_; intro b_) | (refine isx_store ?_; refine gS 0 rfl rfl rfl rfl rfl rfl rfl rfl rfl rfl ?_) | (refine isx_store ?_; refine gS 1 rfl rfl rfl rfl rfl rfl rfl rfl rfl rfl ?_) | (refine isx_store ?_; refine gS 2 rfl rfl rfl rfl rfl rfl rfl rfl rfl rfl ?_) | (refine isx_store ?_; refine gS 3 rfl rfl rfl rfl rfl rfl rfl rfl rfl rfl ?_) | (refine isx_row ?_; refine lx_row (E := EV) rfl rfl rfl rfl rfl rfl rfl rfl rfl rfl rfl rfl rfl ?_; intro b_) | refine lx_nil ?_ | with_reducible refine tq_n ?_ | with_reducible refine tq_r ?_ | with_reducible refine tq_e ?_ | with_reducible refine bk_n ?_ | with_reducible refine bk_r ?_ | (with_reducible refine bk_e ?_ ?_; exact rfl) | (with_reducible refine bk_x ?_ ?_; exact rfl) | refine cx_seq ?_ | refine cx_region ?_ | refine cx_block ?_ | refine cx_ret ?_ | refine cx_skip ?_ | refine cx_exit ?_ | fail)
    generalize hx : IntKind.i64.wrap (1 * 2 ^ min (7 * j) IntKind.i64.bits) = x
    refine lx_append (E := EV) 1 rfl rfl rfl rfl rfl rfl rfl rfl rfl rfl rfl rfl rfl (news := ints .i64 [IntKind.i64.wrap (x - 1), x, IntKind.i64.wrap (0 - x)]) (fun w hm => row_blk 0 rfl rfl hm) (fun u hu => ints_one u hu) (by show 3 * j + 3 ≤ 9223372036854775807; omega) (by show (3 * j + 3) * 8 ≤ _; omega) (fun _ _ _ => trivial) ?_
    intro A' c'
    repeat (first | (refine isU ?_; refine gU rfl ?_) | (refine isG ?_; refine gG rfl rfl ?_) | (refine isx_box ?_; refine gB rfl rfl rfl rfl rfl rfl ?_; intro b_) | (refine isx_alloc ?_; refine gA rfl rfl rfl rfl rfl rfl rfl ?_; intro b_) | (refine isx_store ?_; refine gS 0 rfl rfl rfl rfl rfl rfl rfl rfl rfl rfl ?_) | (refine isx_store ?_; refine gS 1 rfl rfl rfl rfl rfl rfl rfl rfl rfl rfl ?_) | (refine isx_store ?_; refine gS 2 rfl rfl rfl rfl rfl rfl rfl rfl rfl rfl ?_) | (refine isx_store ?_; refine gS 3 rfl rfl rfl rfl rfl rfl rfl rfl rfl rfl ?_) | (refine isx_row ?_; refine lx_row (E := EV) rfl rfl rfl rfl rfl rfl rfl rfl rfl rfl rfl rfl rfl ?_; intro b_) | refine lx_nil ?_ | with_reducible refine tq_n ?_ | with_reducible refine tq_r ?_ | with_reducible refine tq_e ?_ | with_reducible refine bk_n ?_ | with_reducible refine bk_r ?_ | (with_reducible refine bk_e ?_ ?_; exact rfl) | (with_reducible refine bk_x ?_ ?_; exact rfl) | refine cx_seq ?_ | refine cx_region ?_ | refine cx_block ?_ | refine cx_ret ?_ | refine cx_skip ?_ | refine cx_exit ?_ | fail)
    refine ⟨⟨j + 1, zs ++ [IntKind.i64.wrap (x - 1), x, IntKind.i64.wrap (0 - x)], A', c', by omega, by simp [hl]; omega, ?_⟩, ⟨rfl, slot_int (by dsimp only; omega), trivial⟩, ?_, by dsimp only; omega⟩
    · intro z hz2
      rcases List.mem_append.1 hz2 with h1 | h1
      · exact hz z h1
      · simp only [List.mem_cons, List.not_mem_nil, or_false] at h1
        rcases h1 with rfl | rfl | rfl
        · exact wf_wrap _
        · rw [← hx]; exact wf_wrap _
        · exact wf_wrap _
    · have e : ints .i64 zs ++ ints .i64 [IntKind.i64.wrap (x - 1), x, IntKind.i64.wrap (0 - x)] = ints .i64 (zs ++ [IntKind.i64.wrap (x - 1), x, IntKind.i64.wrap (0 - x)]) := by simp [ints]
      dsimp only
      rw [← e]
      exact Gives.pick [1] (by decide) rfl
  obtain rfl : j = 10 := by simp at h; omega
  repeat (first | (refine isU ?_; refine gU rfl ?_) | (refine isG ?_; refine gG rfl rfl ?_) | (refine isx_box ?_; refine gB rfl rfl rfl rfl rfl rfl ?_; intro b_) | (refine isx_alloc ?_; refine gA rfl rfl rfl rfl rfl rfl rfl ?_; intro b_) | (refine isx_store ?_; refine gS 0 rfl rfl rfl rfl rfl rfl rfl rfl rfl rfl ?_) | (refine isx_store ?_; refine gS 1 rfl rfl rfl rfl rfl rfl rfl rfl rfl rfl ?_) | (refine isx_store ?_; refine gS 2 rfl rfl rfl rfl rfl rfl rfl rfl rfl rfl ?_) | (refine isx_store ?_; refine gS 3 rfl rfl rfl rfl rfl rfl rfl rfl rfl rfl ?_) | (refine isx_row ?_; refine lx_row (E := EV) rfl rfl rfl rfl rfl rfl rfl rfl rfl rfl rfl rfl rfl ?_; intro b_) | refine lx_nil ?_ | with_reducible refine tq_n ?_ | with_reducible refine tq_r ?_ | with_reducible refine tq_e ?_ | with_reducible refine bk_n ?_ | with_reducible refine bk_r ?_ | (with_reducible refine bk_e ?_ ?_; exact rfl) | (with_reducible refine bk_x ?_ ?_; exact rfl) | refine cx_seq ?_ | refine cx_region ?_ | refine cx_block ?_ | refine cx_ret ?_ | refine cx_skip ?_ | refine cx_exit ?_ | fail)
  refine lx_append (E := EV) 1 rfl rfl rfl rfl rfl rfl rfl rfl rfl rfl rfl rfl rfl (news := ints .i64 [9223372036854775807, -9223372036854775808, -9223372036854775807, 4611686018427387904, -4611686018427387904, 3, -7, 3037000499, 3037000500]) (fun w hm => row_blk 0 rfl rfl hm) (fun u hu => ints_one u hu) (by decide) (by decide) (fun _ _ _ => trivial) ?_
  intro A' c'
  obtain ⟨ts, hts⟩ : ∃ ts, ts = zs ++ [9223372036854775807, -9223372036854775808, -9223372036854775807, 4611686018427387904, -4611686018427387904, 3, -7, 3037000499, 3037000500] := ⟨_, rfl⟩
  have hT : ∀ z ∈ ts, Wf z := by
    intro z hz2
    rw [hts] at hz2
    rcases List.mem_append.1 hz2 with h1 | h1
    · exact hz z h1
    · simp only [List.mem_cons, List.not_mem_nil, or_false] at h1
      rcases h1 with rfl | rfl | rfl | rfl | rfl | rfl | rfl | rfl | rfl <;> decide
  have hTl : ts.length = 39 := by rw [hts]; simp [hl]
  have e : ints .i64 zs ++ ints .i64 [9223372036854775807, -9223372036854775808, -9223372036854775807, 4611686018427387904, -4611686018427387904, 3, -7, 3037000499, 3037000500] = ints .i64 ts := by rw [hts]; simp [ints]
  rw [e]
  clear e hts hz hl
  repeat (first | (refine isU ?_; refine gU rfl ?_) | (refine isG ?_; refine gG rfl rfl ?_) | (refine isx_box ?_; refine gB rfl rfl rfl rfl rfl rfl ?_; intro b_) | (refine isx_alloc ?_; refine gA rfl rfl rfl rfl rfl rfl rfl ?_; intro b_) | (refine isx_store ?_; refine gS 0 rfl rfl rfl rfl rfl rfl rfl rfl rfl rfl ?_) | (refine isx_store ?_; refine gS 1 rfl rfl rfl rfl rfl rfl rfl rfl rfl rfl ?_) | (refine isx_store ?_; refine gS 2 rfl rfl rfl rfl rfl rfl rfl rfl rfl rfl ?_) | (refine isx_store ?_; refine gS 3 rfl rfl rfl rfl rfl rfl rfl rfl rfl rfl ?_) | (refine isx_row ?_; refine lx_row (E := EV) rfl rfl rfl rfl rfl rfl rfl rfl rfl rfl rfl rfl rfl ?_; intro b_) | refine lx_nil ?_ | with_reducible refine tq_n ?_ | with_reducible refine tq_r ?_ | with_reducible refine tq_e ?_ | with_reducible refine bk_n ?_ | with_reducible refine bk_r ?_ | (with_reducible refine bk_e ?_ ?_; exact rfl) | (with_reducible refine bk_x ?_ ?_; exact rfl) | refine cx_seq ?_ | refine cx_region ?_ | refine cx_block ?_ | refine cx_ret ?_ | refine cx_skip ?_ | refine cx_exit ?_ | fail)
  refine cx_loop (α := { i : Nat // i ≤ 39 }) (fun x => [(1, none, .slice A' 39 c'), (4, none, .int .i64 x.1)]) (fun _ => [.own A' 39 c' 2 1 (ints .i64 ts)]) (fun x => 39 - x.1) ⟨0, Nat.zero_le _⟩ ⟨rfl, rfl, trivial⟩ (Gives.pick [1] (by decide) rfl) ?_
  rintro ⟨i, hi⟩
  dsimp only
  repeat (first | (refine isU ?_; refine gU rfl ?_) | (refine isG ?_; refine gG rfl rfl ?_) | (refine isx_box ?_; refine gB rfl rfl rfl rfl rfl rfl ?_; intro b_) | (refine isx_alloc ?_; refine gA rfl rfl rfl rfl rfl rfl rfl ?_; intro b_) | (refine isx_store ?_; refine gS 0 rfl rfl rfl rfl rfl rfl rfl rfl rfl rfl ?_) | (refine isx_store ?_; refine gS 1 rfl rfl rfl rfl rfl rfl rfl rfl rfl rfl ?_) | (refine isx_store ?_; refine gS 2 rfl rfl rfl rfl rfl rfl rfl rfl rfl rfl ?_) | (refine isx_store ?_; refine gS 3 rfl rfl rfl rfl rfl rfl rfl rfl rfl rfl ?_) | (refine isx_row ?_; refine lx_row (E := EV) rfl rfl rfl rfl rfl rfl rfl rfl rfl rfl rfl rfl rfl ?_; intro b_) | refine lx_nil ?_ | with_reducible refine tq_n ?_ | with_reducible refine tq_r ?_ | with_reducible refine tq_e ?_ | with_reducible refine bk_n ?_ | with_reducible refine bk_r ?_ | (with_reducible refine bk_e ?_ ?_; exact rfl) | (with_reducible refine bk_x ?_ ?_; exact rfl) | refine cx_seq ?_ | refine cx_region ?_ | refine cx_block ?_ | refine cx_ret ?_ | refine cx_skip ?_ | refine cx_exit ?_ | fail)
  refine cx_cond rfl (fun h => ?_) (fun h => ?_)
  · have hi2 : i < 39 := by simp at h; omega
    obtain ⟨x, hx⟩ : ∃ x, ts[i]? = some x := ⟨_, List.getElem?_eq_getElem (by omega)⟩
    have hx0 := ints_get (k := .i64) hx
    have wx : Wf x := hT x (List.mem_of_getElem? hx)
    repeat (first | (refine isU ?_; refine gU rfl ?_) | (refine isG ?_; refine gG rfl rfl ?_) | (refine isx_box ?_; refine gB rfl rfl rfl rfl rfl rfl ?_; intro b_) | (refine isx_alloc ?_; refine gA rfl rfl rfl rfl rfl rfl rfl ?_; intro b_) | (refine isx_store ?_; refine gS 0 rfl rfl rfl rfl rfl rfl rfl rfl rfl rfl ?_) | (refine isx_store ?_; refine gS 1 rfl rfl rfl rfl rfl rfl rfl rfl rfl rfl ?_) | (refine isx_store ?_; refine gS 2 rfl rfl rfl rfl rfl rfl rfl rfl rfl rfl ?_) | (refine isx_store ?_; refine gS 3 rfl rfl rfl rfl rfl rfl rfl rfl rfl rfl ?_) | (refine isx_row ?_; refine lx_row (E := EV) rfl rfl rfl rfl rfl rfl rfl rfl rfl rfl rfl rfl rfl ?_; intro b_) | refine lx_nil ?_ | with_reducible refine tq_n ?_ | with_reducible refine tq_r ?_ | with_reducible refine tq_e ?_ | with_reducible refine bk_n ?_ | with_reducible refine bk_r ?_ | (with_reducible refine bk_e ?_ ?_; exact rfl) | (with_reducible refine bk_x ?_ ?_; exact rfl) | refine cx_seq ?_ | refine cx_region ?_ | refine cx_block ?_ | refine cx_ret ?_ | refine cx_skip ?_ | refine cx_exit ?_ | fail)
    refine cx_loop (α := { j : Nat // j ≤ 39 }) (fun x => [(1, none, .slice A' 39 c'), (4, none, .int .i64 i), (5, none, .int .i64 x.1)]) (fun _ => [.own A' 39 c' 2 1 (ints .i64 ts)]) (fun x => 39 - x.1) ⟨0, Nat.zero_le _⟩ ⟨rfl, rfl, rfl, trivial⟩ (Gives.refl _) ?_
    rintro ⟨j, hj⟩
    dsimp only
    repeat (first | (refine isU ?_; refine gU rfl ?_) | (refine isG ?_; refine gG rfl rfl ?_) | (refine isx_box ?_; refine gB rfl rfl rfl rfl rfl rfl ?_; intro b_) | (refine isx_alloc ?_; refine gA rfl rfl rfl rfl rfl rfl rfl ?_; intro b_) | (refine isx_store ?_; refine gS 0 rfl rfl rfl rfl rfl rfl rfl rfl rfl rfl ?_) | (refine isx_store ?_; refine gS 1 rfl rfl rfl rfl rfl rfl rfl rfl rfl rfl ?_) | (refine isx_store ?_; refine gS 2 rfl rfl rfl rfl rfl rfl rfl rfl rfl rfl ?_) | (refine isx_store ?_; refine gS 3 rfl rfl rfl rfl rfl rfl rfl rfl rfl rfl ?_) | (refine isx_row ?_; refine lx_row (E := EV) rfl rfl rfl rfl rfl rfl rfl rfl rfl rfl rfl rfl rfl ?_; intro b_) | refine lx_nil ?_ | with_reducible refine tq_n ?_ | with_reducible refine tq_r ?_ | with_reducible refine tq_e ?_ | with_reducible refine bk_n ?_ | with_reducible refine bk_r ?_ | (with_reducible refine bk_e ?_ ?_; exact rfl) | (with_reducible refine bk_x ?_ ?_; exact rfl) | refine cx_seq ?_ | refine cx_region ?_ | refine cx_block ?_ | refine cx_ret ?_ | refine cx_skip ?_ | refine cx_exit ?_ | fail)
    refine cx_cond rfl (fun h => ?_) (fun h => ?_)
    · have hj2 : j < 39 := by simp at h; omega
      obtain ⟨y, hy⟩ : ∃ y, ts[j]? = some y := ⟨_, List.getElem?_eq_getElem (by omega)⟩
      have hy0 := ints_get (k := .i64) hy
      have wy : Wf y := hT y (List.mem_of_getElem? hy)
      have hq : (i + j) % 39 < 39 := Nat.mod_lt _ (by decide)
      obtain ⟨z, hz⟩ : ∃ z, ts[(i + j) % 39]? = some z := ⟨_, List.getElem?_eq_getElem (by omega)⟩
      have hz0 := ints_get (k := .i64) hz
      have eq : ((i : Int) + j).tmod ((39 : Nat) : Int) = (((i + j) % 39 : Nat) : Int) := by
        rw [Int.tmod_eq_emod_of_nonneg (by omega)]
        omega
      have emin : (if (j : Int) < i then (j : Int) else i) = ((min i j : Nat) : Int) := by split <;> omega
      have emax : (if (j : Int) > i then (j : Int) else i) = ((max i j : Nat) : Int) := by split <;> omega
      repeat (first | (refine isU ?_; refine gU rfl ?_) | (refine isG ?_; refine gG rfl rfl ?_) | (refine isx_box ?_; refine gB rfl rfl rfl rfl rfl rfl ?_; intro b_) | (refine isx_alloc ?_; refine gA rfl rfl rfl rfl rfl rfl rfl ?_; intro b_) | (refine isx_store ?_; refine gS 0 rfl rfl rfl rfl rfl rfl rfl rfl rfl rfl ?_) | (refine isx_store ?_; refine gS 1 rfl rfl rfl rfl rfl rfl rfl rfl rfl rfl ?_) | (refine isx_store ?_; refine gS 2 rfl rfl rfl rfl rfl rfl rfl rfl rfl rfl ?_) | (refine isx_store ?_; refine gS 3 rfl rfl rfl rfl rfl rfl rfl rfl rfl rfl ?_) | (refine isx_row ?_; refine lx_row (E := EV) rfl rfl rfl rfl rfl rfl rfl rfl rfl rfl rfl rfl rfl ?_; intro b_) | refine lx_nil ?_ | with_reducible refine tq_n ?_ | with_reducible refine tq_r ?_ | with_reducible refine tq_e ?_ | with_reducible refine bk_n ?_ | with_reducible refine bk_r ?_ | (with_reducible refine bk_e ?_ ?_; exact rfl) | (with_reducible refine bk_x ?_ ?_; exact rfl) | refine cx_seq ?_ | refine cx_region ?_ | refine cx_block ?_ | refine cx_ret ?_ | refine cx_skip ?_ | refine cx_exit ?_ | fail)
      refine cx_fact (fun w hm => own_cap 0 hm rfl) fun hcc => ?_
      have hmm : min i j ≤ max i j ∧ max i j ≤ 39 := by omega
      have hb := numBack_fn (cutA A' c' (min i j) 1) (max i j - min i j) (c' - min i j) ((ts.drop (min i j)).take (max i j - min i j)) i x y (fun z hz => hT z (List.mem_of_mem_drop (List.mem_of_mem_take hz))) (by omega) (by omega) (wf_of (by omega) (by omega)) wx wy
      have hs4 := fun b => numSums_fn (some ⟨b, 0, none⟩) 4 4 [x, y, IntKind.i64.wrap (0 - x), y] (by
        intro z hz
        simp only [List.mem_cons, List.not_mem_nil, or_false] at hz
        rcases hz with rfl | rfl | rfl | rfl
        · exact wx
        · exact wy
        · exact wf_wrap _
        · exact wy) (by decide)
      have n1 : ((min i j : Nat) : Int).toNat = min i j := Int.toNat_natCast _
      have n2 : ((max i j : Nat) : Int).toNat = max i j := Int.toNat_natCast _
      generalize min i j = lo at *
      generalize max i j = hi2 at *
      refine cx_draw [17, 28, 49, 70, 71] [.own A' 39 c' 2 1 (ints .i64 ts)] rfl (by kernel_rfl) (Gives.refl _) ?_
      repeat (first | refine lx_not rfl rfl rfl rfl ?_ | refine lx_notu rfl rfl rfl rfl rfl ?_ | ((first | (apply lx_gt; exact rfl; exact rfl; exact rfl) | (apply lx_u; exact rfl) | (apply lx_g; exact rfl; exact rfl)); first | (apply isy_indexAddr; exact q_ixo 0 rfl rfl rfl rfl rfl) | (apply isy_load; exact q_lio 0 rfl rfl rfl rfl hx0) | (apply isy_load; exact q_lio 0 rfl rfl rfl rfl hy0) | (apply isy_load; exact q_lio 0 rfl rfl rfl rfl hz0) | (apply isy_bin_rem; exact yl_eq (q_rem rfl rfl) (fun _ => congrArg (Value.int .i64) eq)) | exact yl_eq (yl_op (E := EV) (v := .int .i64 (if (j : Int) < i then (j : Int) else i)) rfl) (fun _ => congrArg (Value.int .i64) emin) | exact yl_eq (yl_op (E := EV) (v := .int .i64 (if (j : Int) > i then (j : Int) else i)) rfl) (fun _ => congrArg (Value.int .i64) emax) | (apply isy_slice; exact q_sl rfl rfl rfl rfl rfl) | fail) | (refine isG ?_; refine gT rfl rfl rfl ?_) | (refine isU ?_; refine gU rfl ?_) | (refine isG ?_; refine gG rfl rfl ?_) | (refine isx_call ?_; refine lx_gcallt (numTwo_fn _ _ _ wx wy) (fun _ hm => in_nil hm) rfl rfl rfl rfl rfl rfl rfl ?_) | (refine isx_call ?_; refine lx_gcallt (numFloors_fn _ _ wx wy) (fun _ hm => in_nil hm) rfl rfl rfl rfl rfl rfl rfl ?_) | (refine isx_call ?_; refine lx_gcallt (hb) ((fun w hm => back_in hm rfl hmm.1 hmm.2 hcc)) rfl rfl rfl rfl rfl rfl rfl ?_) | (refine isx_call ?_; refine lx_gcallt ((hs4 _)) ((fun w hm => row_ints hm rfl rfl rfl)) rfl rfl rfl rfl rfl rfl rfl ?_) | (refine isx_box ?_; refine gB rfl rfl rfl rfl rfl rfl ?_; intro b_) | (refine isx_alloc ?_; refine gA rfl rfl rfl rfl rfl rfl rfl ?_; intro b_) | (refine isx_store ?_; refine gS 0 rfl rfl rfl rfl rfl rfl rfl rfl rfl rfl ?_) | (refine isx_store ?_; refine gS 1 rfl rfl rfl rfl rfl rfl rfl rfl rfl rfl ?_) | (refine isx_store ?_; refine gS 2 rfl rfl rfl rfl rfl rfl rfl rfl rfl rfl ?_) | (refine isx_store ?_; refine gS 3 rfl rfl rfl rfl rfl rfl rfl rfl rfl rfl ?_) | (refine isx_row ?_; refine lx_row (E := EV) rfl rfl rfl rfl rfl rfl rfl rfl rfl rfl rfl rfl rfl ?_; intro b_) | refine lx_nil ?_ | with_reducible refine tq_n ?_ | with_reducible refine tq_r ?_ | with_reducible refine tq_e ?_ | with_reducible refine bk_n ?_ | with_reducible refine bk_r ?_ | (with_reducible refine bk_e ?_ ?_; exact rfl) | (with_reducible refine bk_x ?_ ?_; exact rfl) | refine cx_seq ?_ | refine cx_region ?_ | refine cx_block ?_ | refine cx_ret ?_ | refine cx_skip ?_ | refine cx_exit ?_ | fail)
      refine cx_cond rfl (fun h => absurd h (by decide)) (fun _ => ?_)
      repeat (first | (refine isU ?_; refine gU rfl ?_) | (refine isG ?_; refine gG rfl rfl ?_) | (refine isx_box ?_; refine gB rfl rfl rfl rfl rfl rfl ?_; intro b_) | (refine isx_alloc ?_; refine gA rfl rfl rfl rfl rfl rfl rfl ?_; intro b_) | (refine isx_store ?_; refine gS 0 rfl rfl rfl rfl rfl rfl rfl rfl rfl rfl ?_) | (refine isx_store ?_; refine gS 1 rfl rfl rfl rfl rfl rfl rfl rfl rfl rfl ?_) | (refine isx_store ?_; refine gS 2 rfl rfl rfl rfl rfl rfl rfl rfl rfl rfl ?_) | (refine isx_store ?_; refine gS 3 rfl rfl rfl rfl rfl rfl rfl rfl rfl rfl ?_) | (refine isx_row ?_; refine lx_row (E := EV) rfl rfl rfl rfl rfl rfl rfl rfl rfl rfl rfl rfl rfl ?_; intro b_) | refine lx_nil ?_ | with_reducible refine tq_n ?_ | with_reducible refine tq_r ?_ | with_reducible refine tq_e ?_ | with_reducible refine bk_n ?_ | with_reducible refine bk_r ?_ | (with_reducible refine bk_e ?_ ?_; exact rfl) | (with_reducible refine bk_x ?_ ?_; exact rfl) | refine cx_seq ?_ | refine cx_region ?_ | refine cx_block ?_ | refine cx_ret ?_ | refine cx_skip ?_ | refine cx_exit ?_ | fail)
      exact ⟨⟨j + 1, by omega⟩, ⟨rfl, rfl, slot_int (by dsimp only; omega), trivial⟩, Gives.pick [1] (by decide) rfl, by dsimp only; omega⟩
    · repeat (first | (refine isU ?_; refine gU rfl ?_) | (refine isG ?_; refine gG rfl rfl ?_) | (refine isx_box ?_; refine gB rfl rfl rfl rfl rfl rfl ?_; intro b_) | (refine isx_alloc ?_; refine gA rfl rfl rfl rfl rfl rfl rfl ?_; intro b_) | (refine isx_store ?_; refine gS 0 rfl rfl rfl rfl rfl rfl rfl rfl rfl rfl ?_) | (refine isx_store ?_; refine gS 1 rfl rfl rfl rfl rfl rfl rfl rfl rfl rfl ?_) | (refine isx_store ?_; refine gS 2 rfl rfl rfl rfl rfl rfl rfl rfl rfl rfl ?_) | (refine isx_store ?_; refine gS 3 rfl rfl rfl rfl rfl rfl rfl rfl rfl rfl ?_) | (refine isx_row ?_; refine lx_row (E := EV) rfl rfl rfl rfl rfl rfl rfl rfl rfl rfl rfl rfl rfl ?_; intro b_) | refine lx_nil ?_ | with_reducible refine tq_n ?_ | with_reducible refine tq_r ?_ | with_reducible refine tq_e ?_ | with_reducible refine bk_n ?_ | with_reducible refine bk_r ?_ | (with_reducible refine bk_e ?_ ?_; exact rfl) | (with_reducible refine bk_x ?_ ?_; exact rfl) | refine cx_seq ?_ | refine cx_region ?_ | refine cx_block ?_ | refine cx_ret ?_ | refine cx_skip ?_ | refine cx_exit ?_ | fail)
      exact ⟨⟨i + 1, by omega⟩, ⟨rfl, slot_int (by dsimp only; omega), trivial⟩, Gives.refl _, by dsimp only; omega⟩
  · have hs0 := numSums_fn none 0 0 [] (by simp) (by decide)
    have hs6 := fun b => numSums_fn (some ⟨b, 0, none⟩) 6 6 [9223372036854775807, 9223372036854775807, 9223372036854775807, -9223372036854775808, -9223372036854775808, -9223372036854775808] (by
      intro z hz
      simp only [List.mem_cons, List.not_mem_nil, or_false] at hz
      rcases hz with rfl | rfl | rfl | rfl | rfl | rfl <;> decide) (by decide)
    have hb := numBack_fn none 0 0 [] 0 0 1 (by simp) (by decide) (by decide) (by decide) (by decide) (by decide)
    repeat (first | refine lx_not rfl rfl rfl rfl ?_ | refine lx_notu rfl rfl rfl rfl rfl ?_ | (refine isG ?_; refine gT rfl rfl rfl ?_) | (refine isU ?_; refine gU rfl ?_) | (refine isG ?_; refine gG rfl rfl ?_) | (refine isx_call ?_; refine lx_gcallt (hs0) ((fun w hm => in_ro ⟨rfl, fun h => absurd h (Nat.lt_irrefl 0)⟩ (in_nil hm) rfl)) rfl rfl rfl rfl rfl rfl rfl ?_) | (refine isx_call ?_; refine lx_gcallt ((hs6 _)) ((fun w hm => row_ints hm rfl rfl rfl)) rfl rfl rfl rfl rfl rfl rfl ?_) | (refine isx_call ?_; refine lx_gcallt (hb) ((fun w hm => in_ro ⟨rfl, fun h => absurd h (Nat.lt_irrefl 0)⟩ (in_nil hm) rfl)) rfl rfl rfl rfl rfl rfl rfl ?_) | (refine isx_call ?_; refine lx_gcallt (nworks_fn) (fun _ hm => in_nil hm) rfl rfl rfl rfl rfl rfl rfl ?_) | (refine isx_box ?_; refine gB rfl rfl rfl rfl rfl rfl ?_; intro b_) | (refine isx_alloc ?_; refine gA rfl rfl rfl rfl rfl rfl rfl ?_; intro b_) | (refine isx_store ?_; refine gS 0 rfl rfl rfl rfl rfl rfl rfl rfl rfl rfl ?_) | (refine isx_store ?_; refine gS 1 rfl rfl rfl rfl rfl rfl rfl rfl rfl rfl ?_) | (refine isx_store ?_; refine gS 2 rfl rfl rfl rfl rfl rfl rfl rfl rfl rfl ?_) | (refine isx_store ?_; refine gS 3 rfl rfl rfl rfl rfl rfl rfl rfl rfl rfl ?_) | (refine isx_row ?_; refine lx_row (E := EV) rfl rfl rfl rfl rfl rfl rfl rfl rfl rfl rfl rfl rfl ?_; intro b_) | refine lx_nil ?_ | with_reducible refine tq_n ?_ | with_reducible refine tq_r ?_ | with_reducible refine tq_e ?_ | with_reducible refine bk_n ?_ | with_reducible refine bk_r ?_ | (with_reducible refine bk_e ?_ ?_; exact rfl) | (with_reducible refine bk_x ?_ ?_; exact rfl) | refine cx_seq ?_ | refine cx_region ?_ | refine cx_block ?_ | refine cx_ret ?_ | refine cx_skip ?_ | refine cx_exit ?_ | fail)
    exact bq_ret (ret_tmp rfl rfl) [] (Gives.nil _) rfl ⟨rfl, rfl⟩
theorem nknown_all (W : World) : Calls Try.prog 14 #[] W fun e W' => e = .returned (.bool true) ∧ Below W.heap.size W W' := known_fn.yes W (mem0 W)
end Go.Proofs.Ytepogieeaidnfaa.num
