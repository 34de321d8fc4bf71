/- keys: a strings.Builder, in chunks: what is checked, written, and read. -/
import Derived.Test.YthmdiopbiiimeaaDoorGo
import Derived.Test.YthmdiopbiiimeaaDoorCk
import Derived.Test.YthmdiopbiiimeaaDoorAp
import Derived.Test.YthmdiopbiiimeaaDoorZb
import Derived.Lib.Builder
import Derived.Lib.UnsafeStr
namespace Go.Proofs.YthmdiopbiiimeaaDoor.bd
open Go.RowKit
/-- a builder in block b: 'u': it has been written -/
abbrev Bd (b : Nat) (u : Bool) (A : Option Addr) (n c : Nat) : Ck := .blk b [.pointer (bif u then some ⟨b, 0, none⟩ else none), .slice A n c] 61
theorem own_cap {M : Me} {L : List Ck} {w : World} {A : Option Addr} {m c : Nat} {T : TypeId} {sz : Nat} {xs : List Value} (k : Nat) (hm : Mem M L w) (hk : L[k]? = some (.own A m c T sz xs)) : m ≤ c ∧ c ≤ 9223372036854775807 := by
  have h : w.ownsRow 0 T sz (.slice A m c) m xs := hm.get hk
  rcases h.2 with ⟨hv, hm0⟩ | ⟨g, cap, cur, hv, _, _, hmc, hcm, _⟩
  · cases hv; omega
  · cases hv; exact ⟨hmc, hcm⟩
section
variable {n : Nat} {M : Me} {Q : Post} {t : Fr} {L : List Ck} {ops : Array Oper} {s : Way} {i : Nat} {rest : List Oper}
theorem yl_neqSelf {p c1 c2 : Option Bool} {dst : Option Tmp} {T' : TypeId} {x y : Operand} {ty : TypeId} {pos : String} {after : Array Edge} {guard : Option (Nat × Bool)} (a : Addr)
    (hx : ov t x = some (c1, .pointer (some a))) (hy : ov t y = some (c2, .pointer (some a))) (h1 : cb p = true → cb c1 = true) (h2 : cb p = true → cb c2 = true) :
    Yl Tryd.prog n t L p ⟨dst, .binOp .neq 59 x y T', ty, pos, after, guard⟩ (.bool false) := fun hp M a' w hf _ => by
  obtain ⟨j, hj, _⟩ := Option.map_eq_some_iff.1 (show (Tryd.prog.info? 61).map (fun i => i.size) = some 2 by kernel_rfl)
  have hr := Lib.run_neq_ptr_same (P := Tryd.prog) w (tp := 59) (te := 61) a Tryd.underlying59 hj
  unfold execOp
  refine run_v ?_
  rw [hf.ov hx (h1 hp), hf.ov hy (h2 hp)]
  simp [eqGuard, hr]
theorem shape_b {w : World} {k b : Nat} {v u : Value} (hm : Mem M L w) (hk : L[k]? = some (.blk b [v, u] 61)) : w.shape? b = some (61, 2) := by
  have h : Blk w b #[v, u] 61 := hm.get hk
  unfold Blk at h
  simp [World.shape?, h]
theorem yl_toU {p c1 : Option Bool} {dst : Option Tmp} {x : Operand} {ty : TypeId} {pos : String} {after : Array Edge} {guard : Option (Nat × Bool)} {b : Nat} {v u : Value} (k : Nat) (hk : L[k]? = some (.blk b [v, u] 61))
    (hx : ov t x = some (c1, .pointer (some ⟨b, 0, none⟩))) (h1 : cb p = true → cb c1 = true) :
    Yl Tryd.prog n t L p ⟨dst, .convert 59 88 x, ty, pos, after, guard⟩ (.pointer (some ⟨b, 0, none⟩)) := fun hp M a' w hf hm => by
  obtain ⟨j, hj, hjs⟩ := Option.map_eq_some_iff.1 (show (Tryd.prog.info? 61).map (fun i => i.size) = some 2 by kernel_rfl)
  have hr := Lib.run_to_unsafe (P := Tryd.prog) w (src := 59) (dst := 88) ⟨b, 0, none⟩ Tryd.underlying59 Tryd.underlying88 hj (by rw [hjs]; decide) (shape_b hm hk) (by show 0 < 2; decide)
  unfold execOp
  refine run_v ?_
  rw [hf.ov hx (h1 hp)]
  exact hr
theorem yl_fromU {p c1 : Option Bool} {dst : Option Tmp} {x : Operand} {ty : TypeId} {pos : String} {after : Array Edge} {guard : Option (Nat × Bool)} {b : Nat} {v u : Value} (k : Nat) (hk : L[k]? = some (.blk b [v, u] 61))
    (hx : ov t x = some (c1, .pointer (some ⟨b, 0, none⟩))) (h1 : cb p = true → cb c1 = true) :
    Yl Tryd.prog n t L p ⟨dst, .convert 88 59 x, ty, pos, after, guard⟩ (.pointer (some ⟨b, 0, none⟩)) := fun hp M a' w hf hm => by
  obtain ⟨j, hj, hjs⟩ := Option.map_eq_some_iff.1 (show (Tryd.prog.info? 61).map (fun i => i.size) = some 2 by kernel_rfl)
  have hr := Lib.run_from_unsafe (P := Tryd.prog) w (src := 88) (dst := 59) ⟨b, 0, none⟩ Tryd.underlying88 Tryd.underlying59 hj (shape_b hm hk) (by kernel_rfl)
  unfold execOp
  refine run_v ?_
  rw [hf.ov hx (h1 hp)]
  exact hr
theorem noesc_ext (v : Value) (M : Me) (w : World) (_ : Mem M L w) : (callFunc 51 #[v]).run Tryd.prog w = .ok (.value v) w := by
  rw [run_callFunc_extern Tryd.func51 (by kernel_rfl) (by kernel_rfl) (by kernel_rfl) (e := Extern.AbiNoEscape.same) (by kernel_rfl), Lib.run_noEscape]
  rfl
/-- one of the language's own functions -/
theorem lx_own {f : Builtin} {dst : Option Tmp} {xs : Array Operand} {ts : Array TypeId} {ty : TypeId} {pos : String} {after : Array Edge} {guard : Option (Nat × Bool)} {d : Nat} {vs : List Value} {v : Value} {L' : List Ck}
    (h : ∀ M w, Mem M L w → ∀ cs, ∃ w', (builtin f ts ty cs vs.toArray).run Tryd.prog w = .ok (.value v) w' ∧ Mem M L' w') (hgs : s.gives L → s.gives L')
    (hl : s.loud i = true) {p : Option Bool} (hg : gOf ops t ⟨dst, .call ⟨.builtin f, xs, ts⟩, ty, pos, after, guard⟩ = some p) (hp : cb p = true) (hd : dst = some d) (hn : Nat.blt d n = true) (hxs : o1s t xs.toList = some vs)
    (hk : LX Tryd.prog n M ops s (i + 1) rest Q ((d, none, v) :: t) L') : LX Tryd.prog n M ops s i (⟨dst, .call ⟨.builtin f, xs, ts⟩, ty, pos, after, guard⟩ :: rest) Q t L :=
  lx_loud hl hg hp fun a w hf hm hs K hK => by
    have hev : xs.map a.eval = vs.toArray := by
      apply Array.ext'
      have := o1s_eval hf hxs
      simpa using this
    unfold Oper.wp execOp
    simp only [resolve, Sem.run_bind, Sem.run_pure, Result.andThen_ok, invoke, hev]
    generalize Array.map _ xs = cs
    obtain ⟨w', hr, hm'⟩ := h M w hm cs
    rw [hr]
    show K (a.put dst v) w'
    rw [hd]
    exact hK _ _ _ _ (hf.put1 (Nat.le_of_ble_eq_true hn) v) hm' (hgs hs) hk
end
attribute [local irreducible] LX CX Yl Gives RetIs Fn
theorem copyCheck_fn (b : Nat) (u : Bool) (A : Option Addr) (m c : Nat) : Fn Tryd.prog 43 [.pointer (some ⟨b, 0, none⟩)] [Bd b u A m c] [b] fun v Lo => v = .tuple #[] ∧ Lo = [Bd b true A m c] := by
  refine fn_enter Tryd.func43 rfl rfl (by kernel_rfl) rfl ?_
  intro w0
  cases u
  · repeat (first | refine lx_not rfl rfl rfl rfl ?_ | refine lx_notu rfl rfl rfl rfl rfl ?_ | (refine isG ?_; refine gT rfl rfl rfl ?_) | (refine isU ?_; refine gU rfl ?_) | (refine isG ?_; refine gG rfl rfl ?_) | (refine isx_box ?_; refine gB rfl rfl rfl rfl rfl rfl ?_; intro b_) | (refine isx_alloc ?_; refine gA rfl rfl rfl rfl rfl rfl rfl ?_; intro b_) | (refine isx_store ?_; refine gS 0 rfl rfl rfl rfl rfl rfl rfl rfl rfl rfl ?_) | (refine isx_store ?_; refine gS 1 rfl rfl rfl rfl rfl rfl rfl rfl rfl rfl ?_) | (refine isx_store ?_; refine gS 2 rfl rfl rfl rfl rfl rfl rfl rfl rfl rfl ?_) | (refine isx_store ?_; refine gS 3 rfl rfl rfl rfl rfl rfl rfl rfl rfl rfl ?_) | (refine isx_row ?_; refine lx_row (E := EV) rfl rfl rfl rfl rfl rfl rfl rfl rfl rfl rfl rfl rfl ?_; intro b_) | refine lx_nil ?_ | with_reducible refine tq_n ?_ | with_reducible refine tq_r ?_ | with_reducible refine tq_e ?_ | with_reducible refine bk_n ?_ | with_reducible refine bk_r ?_ | (with_reducible refine bk_e ?_ ?_; exact rfl) | (with_reducible refine bk_x ?_ ?_; exact rfl) | refine cx_seq ?_ | refine cx_region ?_ | refine cx_block ?_ | refine cx_ret ?_ | refine cx_skip ?_ | refine cx_exit ?_ | fail)
    refine cx_cond rfl (fun _ => ?_) (fun h => by cases h)
    repeat (first | refine lx_not rfl rfl rfl rfl ?_ | refine lx_notu rfl rfl rfl rfl rfl ?_ | ((first | (apply lx_gt; exact rfl; exact rfl; exact rfl) | (apply lx_u; exact rfl) | (apply lx_g; exact rfl; exact rfl)); first | exact yl_toU 0 rfl rfl (by first | exact fun _ => rfl | exact fun h => h | exact fun h => (Bool.and_eq_true_iff.1 h).1) | exact yl_fromU 0 rfl rfl (by first | exact fun _ => rfl | exact fun h => h | exact fun h => (Bool.and_eq_true_iff.1 h).1) | fail) | (refine isG ?_; refine gT rfl rfl rfl ?_) | (refine isU ?_; refine gU rfl ?_) | (refine isG ?_; refine gG rfl rfl ?_) | (refine isx_call ?_; (refine isx_call ?_; refine lx_ext0 (noesc_ext _) rfl rfl rfl rfl rfl rfl rfl rfl ?_)) | (refine isx_box ?_; refine gB rfl rfl rfl rfl rfl rfl ?_; intro b_) | (refine isx_alloc ?_; refine gA rfl rfl rfl rfl rfl rfl rfl ?_; intro b_) | (refine isx_store ?_; refine gS 0 rfl rfl rfl rfl rfl rfl rfl rfl rfl rfl ?_) | (refine isx_store ?_; refine gS 1 rfl rfl rfl rfl rfl rfl rfl rfl rfl rfl ?_) | (refine isx_store ?_; refine gS 2 rfl rfl rfl rfl rfl rfl rfl rfl rfl rfl ?_) | (refine isx_store ?_; refine gS 3 rfl rfl rfl rfl rfl rfl rfl rfl rfl rfl ?_) | (refine isx_row ?_; refine lx_row (E := EV) rfl rfl rfl rfl rfl rfl rfl rfl rfl rfl rfl rfl rfl ?_; intro b_) | refine lx_nil ?_ | with_reducible refine tq_n ?_ | with_reducible refine tq_r ?_ | with_reducible refine tq_e ?_ | with_reducible refine bk_n ?_ | with_reducible refine bk_r ?_ | (with_reducible refine bk_e ?_ ?_; exact rfl) | (with_reducible refine bk_x ?_ ?_; exact rfl) | refine cx_seq ?_ | refine cx_region ?_ | refine cx_block ?_ | refine cx_ret ?_ | refine cx_skip ?_ | refine cx_exit ?_ | fail)
    exact bq_end (ret_none rfl) [_] (Gives.refl _) rfl ⟨rfl, rfl⟩
  · repeat (first | refine lx_not rfl rfl rfl rfl ?_ | refine lx_notu rfl rfl rfl rfl rfl ?_ | (refine isG ?_; refine gT rfl rfl rfl ?_) | (refine isU ?_; refine gU rfl ?_) | (refine isG ?_; refine gG rfl rfl ?_) | (refine isx_box ?_; refine gB rfl rfl rfl rfl rfl rfl ?_; intro b_) | (refine isx_alloc ?_; refine gA rfl rfl rfl rfl rfl rfl rfl ?_; intro b_) | (refine isx_store ?_; refine gS 0 rfl rfl rfl rfl rfl rfl rfl rfl rfl rfl ?_) | (refine isx_store ?_; refine gS 1 rfl rfl rfl rfl rfl rfl rfl rfl rfl rfl ?_) | (refine isx_store ?_; refine gS 2 rfl rfl rfl rfl rfl rfl rfl rfl rfl rfl ?_) | (refine isx_store ?_; refine gS 3 rfl rfl rfl rfl rfl rfl rfl rfl rfl rfl ?_) | (refine isx_row ?_; refine lx_row (E := EV) rfl rfl rfl rfl rfl rfl rfl rfl rfl rfl rfl rfl rfl ?_; intro b_) | refine lx_nil ?_ | with_reducible refine tq_n ?_ | with_reducible refine tq_r ?_ | with_reducible refine tq_e ?_ | with_reducible refine bk_n ?_ | with_reducible refine bk_r ?_ | (with_reducible refine bk_e ?_ ?_; exact rfl) | (with_reducible refine bk_x ?_ ?_; exact rfl) | refine cx_seq ?_ | refine cx_region ?_ | refine cx_block ?_ | refine cx_ret ?_ | refine cx_skip ?_ | refine cx_exit ?_ | fail)
    refine cx_cond rfl (fun h => by cases h) (fun _ => ?_)
    repeat (first | refine lx_not rfl rfl rfl rfl ?_ | refine lx_notu rfl rfl rfl rfl rfl ?_ | ((first | (apply lx_gt; exact rfl; exact rfl; exact rfl) | (apply lx_u; exact rfl) | (apply lx_g; exact rfl; exact rfl)); first | exact yl_neqSelf _ rfl rfl (by first | exact fun _ => rfl | exact fun h => h | exact fun h => (Bool.and_eq_true_iff.1 h).1) (by first | exact fun _ => rfl | exact fun h => h | exact fun h => (Bool.and_eq_true_iff.1 h).1) | fail) | (refine isG ?_; refine gT rfl rfl rfl ?_) | (refine isU ?_; refine gU rfl ?_) | (refine isG ?_; refine gG rfl rfl ?_) | (refine isx_box ?_; refine gB rfl rfl rfl rfl rfl rfl ?_; intro b_) | (refine isx_alloc ?_; refine gA rfl rfl rfl rfl rfl rfl rfl ?_; intro b_) | (refine isx_store ?_; refine gS 0 rfl rfl rfl rfl rfl rfl rfl rfl rfl rfl ?_) | (refine isx_store ?_; refine gS 1 rfl rfl rfl rfl rfl rfl rfl rfl rfl rfl ?_) | (refine isx_store ?_; refine gS 2 rfl rfl rfl rfl rfl rfl rfl rfl rfl rfl ?_) | (refine isx_store ?_; refine gS 3 rfl rfl rfl rfl rfl rfl rfl rfl rfl rfl ?_) | (refine isx_row ?_; refine lx_row (E := EV) rfl rfl rfl rfl rfl rfl rfl rfl rfl rfl rfl rfl rfl ?_; intro b_) | refine lx_nil ?_ | with_reducible refine tq_n ?_ | with_reducible refine tq_r ?_ | with_reducible refine tq_e ?_ | with_reducible refine bk_n ?_ | with_reducible refine bk_r ?_ | (with_reducible refine bk_e ?_ ?_; exact rfl) | (with_reducible refine bk_x ?_ ?_; exact rfl) | refine cx_seq ?_ | refine cx_region ?_ | refine cx_block ?_ | refine cx_ret ?_ | refine cx_skip ?_ | refine cx_exit ?_ | fail)
    refine cx_cond rfl (fun h => by cases h) (fun _ => ?_)
    repeat (first | refine lx_not rfl rfl rfl rfl ?_ | refine lx_notu rfl rfl rfl rfl rfl ?_ | (refine isG ?_; refine gT rfl rfl rfl ?_) | (refine isU ?_; refine gU rfl ?_) | (refine isG ?_; refine gG rfl rfl ?_) | (refine isx_box ?_; refine gB rfl rfl rfl rfl rfl rfl ?_; intro b_) | (refine isx_alloc ?_; refine gA rfl rfl rfl rfl rfl rfl rfl ?_; intro b_) | (refine isx_store ?_; refine gS 0 rfl rfl rfl rfl rfl rfl rfl rfl rfl rfl ?_) | (refine isx_store ?_; refine gS 1 rfl rfl rfl rfl rfl rfl rfl rfl rfl rfl ?_) | (refine isx_store ?_; refine gS 2 rfl rfl rfl rfl rfl rfl rfl rfl rfl rfl ?_) | (refine isx_store ?_; refine gS 3 rfl rfl rfl rfl rfl rfl rfl rfl rfl rfl ?_) | (refine isx_row ?_; refine lx_row (E := EV) rfl rfl rfl rfl rfl rfl rfl rfl rfl rfl rfl rfl rfl ?_; intro b_) | refine lx_nil ?_ | with_reducible refine tq_n ?_ | with_reducible refine tq_r ?_ | with_reducible refine tq_e ?_ | with_reducible refine bk_n ?_ | with_reducible refine bk_r ?_ | (with_reducible refine bk_e ?_ ?_; exact rfl) | (with_reducible refine bk_x ?_ ?_; exact rfl) | refine cx_seq ?_ | refine cx_region ?_ | refine cx_block ?_ | refine cx_ret ?_ | refine cx_skip ?_ | refine cx_exit ?_ | fail)
    exact bq_end (ret_none rfl) [_] (Gives.refl _) rfl ⟨rfl, rfl⟩
/-- the blocks that a write may turn -/
abbrev bdD (b : Nat) (A : Option Addr) : List Nat := b :: (A.map (·.block)).toList
theorem allD_bd (b : Nat) (u : Bool) (A : Option Addr) (m c : Nat) (T : TypeId) (xs : List Value) : AllD (bdD b A) [Bd b u A m c, .own A m c T 1 xs] :=
  ⟨List.mem_cons_self .., fun g hg => List.mem_cons_of_mem _ (Option.mem_toList.2 hg), trivial⟩
theorem onD_bd (b : Nat) (u : Bool) (A : Option Addr) (m c : Nat) (T : TypeId) (xs : List Value) : ∀ g ∈ bdD b A, ∃ k ∈ [Bd b u A m c, .own A m c T 1 xs], k.mut_ = true ∧ k.on g := fun g hg => by
  rcases List.mem_cons.1 hg with rfl | hg
  · exact ⟨_, List.mem_cons_self .., rfl, rfl⟩
  · exact ⟨_, List.mem_cons_of_mem _ (List.mem_cons_self ..), rfl, Option.mem_toList.1 hg⟩
abbrev Wrote (b : Nat) (l : List B8) (r : Value) (v : Value) (Lo : List Ck) : Prop := ∃ A' c', v = r ∧ Lo = [Bd b true A' l.length c', .own A' l.length c' 5 1 (bvs l)]
theorem writeS_fn (b : Nat) (u : Bool) (A : Option Addr) (m c : Nat) (l x : List B8) (hl : l.length = m) (hm : m + x.length ≤ 140737488355328) :
    Fn Tryd.prog 31 [.pointer (some ⟨b, 0, none⟩), .string (sb x)] [Bd b u A m c, .own A m c 5 1 (bvs l)] (bdD b A) (Wrote b (l ++ x) (.tuple #[.int .i64 x.length, .nilIface])) := by
  subst hl
  refine fn_enter Tryd.func31 rfl rfl (by kernel_rfl) rfl ?_
  intro w0
  repeat (first | refine lx_not rfl rfl rfl rfl ?_ | refine lx_notu rfl rfl rfl rfl rfl ?_ | (refine isG ?_; refine gT rfl rfl rfl ?_) | (refine isU ?_; refine gU rfl ?_) | (refine isG ?_; refine gG rfl rfl ?_) | (refine isx_call ?_; refine k_call (copyCheck_fn b u A l.length c) [0] [0] [1] rfl rfl rfl rfl rfl rfl rfl rfl ?_; rintro v_ Lo_ ⟨rfl, rfl⟩) | (refine isx_box ?_; refine gB rfl rfl rfl rfl rfl rfl ?_; intro b_) | (refine isx_alloc ?_; refine gA rfl rfl rfl rfl rfl rfl rfl ?_; intro b_) | (refine isx_store ?_; refine gS 0 rfl rfl rfl rfl rfl rfl rfl rfl rfl rfl ?_) | (refine isx_store ?_; refine gS 1 rfl rfl rfl rfl rfl rfl rfl rfl rfl rfl ?_) | (refine isx_store ?_; refine gS 2 rfl rfl rfl rfl rfl rfl rfl rfl rfl rfl ?_) | (refine isx_store ?_; refine gS 3 rfl rfl rfl rfl rfl rfl rfl rfl rfl rfl ?_) | (refine isx_row ?_; refine lx_row (E := EV) rfl rfl rfl rfl rfl rfl rfl rfl rfl rfl rfl rfl rfl ?_; intro b_) | refine lx_nil ?_ | with_reducible refine tq_n ?_ | with_reducible refine tq_r ?_ | with_reducible refine tq_e ?_ | with_reducible refine bk_n ?_ | with_reducible refine bk_r ?_ | (with_reducible refine bk_e ?_ ?_; exact rfl) | (with_reducible refine bk_x ?_ ?_; exact rfl) | refine cx_seq ?_ | refine cx_region ?_ | refine cx_block ?_ | refine cx_ret ?_ | refine cx_skip ?_ | refine cx_exit ?_ | fail)
  refine lx_appendS (E := EV) 1 rfl rfl rfl rfl rfl rfl rfl rfl rfl rfl rfl rfl rfl (by omega) (fun _ _ _ => trivial) ?_
  intro A' c'
  rw [← bvs_append]
  repeat (first | refine lx_not rfl rfl rfl rfl ?_ | refine lx_notu rfl rfl rfl rfl rfl ?_ | (refine isG ?_; refine gT rfl rfl rfl ?_) | (refine isU ?_; refine gU rfl ?_) | (refine isG ?_; refine gG rfl rfl ?_) | (refine isx_box ?_; refine gB rfl rfl rfl rfl rfl rfl ?_; intro b_) | (refine isx_alloc ?_; refine gA rfl rfl rfl rfl rfl rfl rfl ?_; intro b_) | (refine isx_store ?_; refine gS 0 rfl rfl rfl rfl rfl rfl rfl rfl rfl rfl ?_) | (refine isx_store ?_; refine gS 1 rfl rfl rfl rfl rfl rfl rfl rfl rfl rfl ?_) | (refine isx_store ?_; refine gS 2 rfl rfl rfl rfl rfl rfl rfl rfl rfl rfl ?_) | (refine isx_store ?_; refine gS 3 rfl rfl rfl rfl rfl rfl rfl rfl rfl rfl ?_) | (refine isx_row ?_; refine lx_row (E := EV) rfl rfl rfl rfl rfl rfl rfl rfl rfl rfl rfl rfl rfl ?_; intro b_) | refine lx_nil ?_ | with_reducible refine tq_n ?_ | with_reducible refine tq_r ?_ | with_reducible refine tq_e ?_ | with_reducible refine bk_n ?_ | with_reducible refine bk_r ?_ | (with_reducible refine bk_e ?_ ?_; exact rfl) | (with_reducible refine bk_x ?_ ?_; exact rfl) | refine cx_seq ?_ | refine cx_region ?_ | refine cx_block ?_ | refine cx_ret ?_ | refine cx_skip ?_ | refine cx_exit ?_ | fail)
  exact bq_ret (ret_tmp2 rfl rfl rfl) [_, _] (Gives.refl _) rfl ⟨A', c', by rw [sb_size], by rw [List.length_append]; rfl⟩
theorem writeB_fn (b : Nat) (u : Bool) (A : Option Addr) (m c : Nat) (l : List B8) (x : B8) (hl : l.length = m) (hm : m + 1 ≤ 140737488355328) :
    Fn Tryd.prog 49 [.pointer (some ⟨b, 0, none⟩), bv x] [Bd b u A m c, .own A m c 5 1 (bvs l)] (bdD b A) (Wrote b (l ++ [x]) .nilIface) := by
  subst hl
  refine fn_enter Tryd.func49 rfl rfl (by kernel_rfl) rfl ?_
  intro w0
  repeat (first | refine lx_not rfl rfl rfl rfl ?_ | refine lx_notu rfl rfl rfl rfl rfl ?_ | (refine isG ?_; refine gT rfl rfl rfl ?_) | (refine isU ?_; refine gU rfl ?_) | (refine isG ?_; refine gG rfl rfl ?_) | (refine isx_call ?_; refine k_call (copyCheck_fn b u A l.length c) [0] [0] [1] rfl rfl rfl rfl rfl rfl rfl rfl ?_; rintro v_ Lo_ ⟨rfl, rfl⟩) | (refine isx_box ?_; refine gB rfl rfl rfl rfl rfl rfl ?_; intro b_) | (refine isx_alloc ?_; refine gA rfl rfl rfl rfl rfl rfl rfl ?_; intro b_) | (refine isx_store ?_; refine gS 0 rfl rfl rfl rfl rfl rfl rfl rfl rfl rfl ?_) | (refine isx_store ?_; refine gS 1 rfl rfl rfl rfl rfl rfl rfl rfl rfl rfl ?_) | (refine isx_store ?_; refine gS 2 rfl rfl rfl rfl rfl rfl rfl rfl rfl rfl ?_) | (refine isx_store ?_; refine gS 3 rfl rfl rfl rfl rfl rfl rfl rfl rfl rfl ?_) | (refine isx_row ?_; refine lx_row (E := EV) rfl rfl rfl rfl rfl rfl rfl rfl rfl rfl rfl rfl rfl ?_; intro b_) | refine lx_nil ?_ | with_reducible refine tq_n ?_ | with_reducible refine tq_r ?_ | with_reducible refine tq_e ?_ | with_reducible refine bk_n ?_ | with_reducible refine bk_r ?_ | (with_reducible refine bk_e ?_ ?_; exact rfl) | (with_reducible refine bk_x ?_ ?_; exact rfl) | refine cx_seq ?_ | refine cx_region ?_ | refine cx_block ?_ | refine cx_ret ?_ | refine cx_skip ?_ | refine cx_exit ?_ | fail)
  refine lx_append (E := EV) 2 rfl rfl rfl rfl rfl rfl rfl rfl rfl rfl rfl rfl rfl (news := bvs [x]) (fun w hm => row_blk 0 rfl rfl hm) bvs_one (by unfold maxLen; omega) (by show (_ + _) * 1 ≤ _; omega) (fun _ _ _ => trivial) ?_
  intro A' c'
  rw [← bvs_append]
  repeat (first | refine lx_not rfl rfl rfl rfl ?_ | refine lx_notu rfl rfl rfl rfl rfl ?_ | (refine isG ?_; refine gT rfl rfl rfl ?_) | (refine isU ?_; refine gU rfl ?_) | (refine isG ?_; refine gG rfl rfl ?_) | (refine isx_box ?_; refine gB rfl rfl rfl rfl rfl rfl ?_; intro b_) | (refine isx_alloc ?_; refine gA rfl rfl rfl rfl rfl rfl rfl ?_; intro b_) | (refine isx_store ?_; refine gS 0 rfl rfl rfl rfl rfl rfl rfl rfl rfl rfl ?_) | (refine isx_store ?_; refine gS 1 rfl rfl rfl rfl rfl rfl rfl rfl rfl rfl ?_) | (refine isx_store ?_; refine gS 2 rfl rfl rfl rfl rfl rfl rfl rfl rfl rfl ?_) | (refine isx_store ?_; refine gS 3 rfl rfl rfl rfl rfl rfl rfl rfl rfl rfl ?_) | (refine isx_row ?_; refine lx_row (E := EV) rfl rfl rfl rfl rfl rfl rfl rfl rfl rfl rfl rfl rfl ?_; intro b_) | refine lx_nil ?_ | with_reducible refine tq_n ?_ | with_reducible refine tq_r ?_ | with_reducible refine tq_e ?_ | with_reducible refine bk_n ?_ | with_reducible refine bk_r ?_ | (with_reducible refine bk_e ?_ ?_; exact rfl) | (with_reducible refine bk_x ?_ ?_; exact rfl) | refine cx_seq ?_ | refine cx_region ?_ | refine cx_block ?_ | refine cx_ret ?_ | refine cx_skip ?_ | refine cx_exit ?_ | fail)
  exact bq_ret (ret_tmp rfl rfl) [_, _] (Gives.pick [1, 2] (by decide) rfl) rfl ⟨A', c', rfl, by rw [List.length_append]; rfl⟩
theorem ustr_row {w : World} {M : Me} {b g m c : Nat} {u : Bool} {l : List B8} (hl : l.length = m) (h0 : l ≠ []) (hm : Mem M [Bd b u (some ⟨g, 0, none⟩) m c, .own (some ⟨g, 0, none⟩) m c 5 1 (bvs l)] w) :
    ∃ w', (Builtin.unsafeString_ #[82, 3] 9 #[.pointer (some ⟨g, 0, none⟩), .int .i64 m]).run Tryd.prog w = .ok (.string (sb l)) w' ∧ Mem M [Bd b u (some ⟨g, 0, none⟩) m c] w' := by
  have hown : w.ownsRow 0 5 1 (.slice (some ⟨g, 0, none⟩) m c) m (bvs l) := hm.get (k := 1) rfl
  have hne : m ≠ 0 := fun h => h0 (List.eq_nil_of_length_eq_zero (hl.trans h))
  rcases hown.2 with ⟨hv, _⟩ | ⟨g', cap, cur, hv, _, hg, h1, h2, h3, h4⟩
  · cases hv
  · cases hv
    have hx0 : l.map UInt8.ofBitVec ≠ [] := fun h => h0 (List.map_eq_nil_iff.1 h)
    have hxl : (l.map UInt8.ofBitVec).length = m := by rw [List.length_map, hl]
    have hbg : b ≠ g := fun e => by
      have := (List.pairwise_cons.1 hm.sep).1 _ (List.mem_cons_self ..) (.inl rfl) b rfl
      exact this (by rw [e]; rfl)
    have hr := Lib.run_unsafeString_row (P := Tryd.prog) w 82 3 9 5 Tryd.underlying82 (by kernel_rfl) g cur.size (by simp [World.shape?, hg]) (l.map UInt8.ofBitVec) hx0 (by rw [hxl]; omega) (by rw [hxl]; unfold maxLen at h2; omega) (fun j x hx => by
      have h5 : (bvs l)[j]? = some (.int .u8 x.toNat) := by
        rw [List.getElem?_map] at hx
        cases hj : l[j]? with
        | none => rw [hj] at hx; cases hx
        | some y =>
          rw [hj] at hx
          cases hx
          rw [bvs_get hj]
          rfl
      exact hown.cells (g := g) rfl j _ h5)
    rw [hxl] at hr
    refine ⟨_, hr, ?_⟩
    have hb : Blk w b _ _ := hm.get (k := 0) rfl
    have hk : ∀ k, k ≠ g → (w.freeze ⟨g, 0, none⟩ m).heap[k]? = w.heap[k]? := fun k hk => by
      unfold World.freeze
      rw [if_neg hne]
      simp only [Array.getElem?_modify]
      rw [if_neg (fun e => hk e.symm)]
    have hs : (w.freeze ⟨g, 0, none⟩ m).heap.size = w.heap.size := by
      unfold World.freeze
      rw [if_neg hne]
      simp
    have hout := hm.out _ (List.mem_cons_of_mem _ (List.mem_cons_self ..)) rfl g rfl
    refine ⟨⟨?_, ?_, ?_, by rw [hs]; exact hm.keep.size, fun k h6 h7 => ?_⟩, ?_, ?_, List.pairwise_cons.2 ⟨by simp, .nil⟩⟩
    · exact (show (w.freeze ⟨g, 0, none⟩ m).os = w.os by unfold World.freeze; rw [if_neg hne]).trans hm.keep.os
    · exact (show (w.freeze ⟨g, 0, none⟩ m).tape = w.tape by unfold World.freeze; rw [if_neg hne]).trans hm.keep.tape
    · exact (show (w.freeze ⟨g, 0, none⟩ m).output = w.output by unfold World.freeze; rw [if_neg hne]).trans hm.keep.output
    · rw [hk k (fun e => hout.elim (fun h => h7 (by rw [e]; exact h)) (fun h => by omega))]
      exact hm.keep.block k h6 h7
    · intro c hc
      rcases List.mem_cons.1 hc with rfl | hc
      · exact (hk b hbg).trans hb
      · cases hc
    · intro c hc
      rcases List.mem_cons.1 hc with rfl | hc
      · exact hm.out _ (List.mem_cons_self ..)
      · cases hc
theorem blt_ustr {ts : Array TypeId} {ty : TypeId} {cs : Array Bool} {args : Array Value} {v : Value} {w w' : World} (h : (Builtin.unsafeString_ ts ty args).run Tryd.prog w = .ok v w') : (builtin .unsafeString ts ty cs args).run Tryd.prog w = .ok (.value v) w' := by
  simp [builtin, h]
theorem blt_usd {ts : Array TypeId} {ty : TypeId} {cs : Array Bool} {args : Array Value} {v : Value} {w w' : World} (h : (Builtin.unsafeSliceData_ ts ty args).run Tryd.prog w = .ok v w') : (builtin .unsafeSliceData ts ty cs args).run Tryd.prog w = .ok (.value v) w' := by
  simp [builtin, h]
theorem string_nil (b : Nat) (u : Bool) : Fn Tryd.prog 33 [.pointer (some ⟨b, 0, none⟩)] [Bd b u none 0 0] [b] fun v Lo => v = .string (sb []) ∧ Lo = [] := by
  refine fn_enter Tryd.func33 rfl rfl (by kernel_rfl) rfl ?_
  intro w0
  repeat (first | refine lx_not rfl rfl rfl rfl ?_ | refine lx_notu rfl rfl rfl rfl rfl ?_ | (refine isG ?_; refine gT rfl rfl rfl ?_) | (refine isU ?_; refine gU rfl ?_) | (refine isG ?_; refine gG rfl rfl ?_) | (refine isx_box ?_; refine gB rfl rfl rfl rfl rfl rfl ?_; intro b_) | (refine isx_alloc ?_; refine gA rfl rfl rfl rfl rfl rfl rfl ?_; intro b_) | (refine isx_store ?_; refine gS 0 rfl rfl rfl rfl rfl rfl rfl rfl rfl rfl ?_) | (refine isx_store ?_; refine gS 1 rfl rfl rfl rfl rfl rfl rfl rfl rfl rfl ?_) | (refine isx_store ?_; refine gS 2 rfl rfl rfl rfl rfl rfl rfl rfl rfl rfl ?_) | (refine isx_store ?_; refine gS 3 rfl rfl rfl rfl rfl rfl rfl rfl rfl rfl ?_) | (refine isx_row ?_; refine lx_row (E := EV) rfl rfl rfl rfl rfl rfl rfl rfl rfl rfl rfl rfl rfl ?_; intro b_) | refine lx_nil ?_ | with_reducible refine tq_n ?_ | with_reducible refine tq_r ?_ | with_reducible refine tq_e ?_ | with_reducible refine bk_n ?_ | with_reducible refine bk_r ?_ | (with_reducible refine bk_e ?_ ?_; exact rfl) | (with_reducible refine bk_x ?_ ?_; exact rfl) | refine cx_seq ?_ | refine cx_region ?_ | refine cx_block ?_ | refine cx_ret ?_ | refine cx_skip ?_ | refine cx_exit ?_ | fail)
  refine cx_draw [4, 10] [Bd b u none 0 0] rfl (by kernel_rfl) (Gives.refl _) ?_
  repeat (first | refine lx_not rfl rfl rfl rfl ?_ | refine lx_notu rfl rfl rfl rfl rfl ?_ | (refine isG ?_; refine gT rfl rfl rfl ?_) | (refine isU ?_; refine gU rfl ?_) | (refine isG ?_; refine gG rfl rfl ?_) | (refine isx_box ?_; refine gB rfl rfl rfl rfl rfl rfl ?_; intro b_) | (refine isx_alloc ?_; refine gA rfl rfl rfl rfl rfl rfl rfl ?_; intro b_) | (refine isx_store ?_; refine gS 0 rfl rfl rfl rfl rfl rfl rfl rfl rfl rfl ?_) | (refine isx_store ?_; refine gS 1 rfl rfl rfl rfl rfl rfl rfl rfl rfl rfl ?_) | (refine isx_store ?_; refine gS 2 rfl rfl rfl rfl rfl rfl rfl rfl rfl rfl ?_) | (refine isx_store ?_; refine gS 3 rfl rfl rfl rfl rfl rfl rfl rfl rfl rfl ?_) | (refine isx_row ?_; refine lx_row (E := EV) rfl rfl rfl rfl rfl rfl rfl rfl rfl rfl rfl rfl rfl ?_; intro b_) | refine lx_nil ?_ | with_reducible refine tq_n ?_ | with_reducible refine tq_r ?_ | with_reducible refine tq_e ?_ | with_reducible refine bk_n ?_ | with_reducible refine bk_r ?_ | (with_reducible refine bk_e ?_ ?_; exact rfl) | (with_reducible refine bk_x ?_ ?_; exact rfl) | refine cx_seq ?_ | refine cx_region ?_ | refine cx_block ?_ | refine cx_ret ?_ | refine cx_skip ?_ | refine cx_exit ?_ | fail)
  refine isx_blt ?_
  refine lx_own (fun M w hm cs => ⟨w, blt_usd (Lib.run_unsafeSliceData_nil (P := Tryd.prog) (w := w) _ _ _ _), hm⟩) (fun h => h) rfl rfl rfl rfl rfl rfl ?_
  repeat (first | refine lx_not rfl rfl rfl rfl ?_ | refine lx_notu rfl rfl rfl rfl rfl ?_ | (refine isG ?_; refine gT rfl rfl rfl ?_) | (refine isU ?_; refine gU rfl ?_) | (refine isG ?_; refine gG rfl rfl ?_) | (refine isx_box ?_; refine gB rfl rfl rfl rfl rfl rfl ?_; intro b_) | (refine isx_alloc ?_; refine gA rfl rfl rfl rfl rfl rfl rfl ?_; intro b_) | (refine isx_store ?_; refine gS 0 rfl rfl rfl rfl rfl rfl rfl rfl rfl rfl ?_) | (refine isx_store ?_; refine gS 1 rfl rfl rfl rfl rfl rfl rfl rfl rfl rfl ?_) | (refine isx_store ?_; refine gS 2 rfl rfl rfl rfl rfl rfl rfl rfl rfl rfl ?_) | (refine isx_store ?_; refine gS 3 rfl rfl rfl rfl rfl rfl rfl rfl rfl rfl ?_) | (refine isx_row ?_; refine lx_row (E := EV) rfl rfl rfl rfl rfl rfl rfl rfl rfl rfl rfl rfl rfl ?_; intro b_) | refine lx_nil ?_ | with_reducible refine tq_n ?_ | with_reducible refine tq_r ?_ | with_reducible refine tq_e ?_ | with_reducible refine bk_n ?_ | with_reducible refine bk_r ?_ | (with_reducible refine bk_e ?_ ?_; exact rfl) | (with_reducible refine bk_x ?_ ?_; exact rfl) | refine cx_seq ?_ | refine cx_region ?_ | refine cx_block ?_ | refine cx_ret ?_ | refine cx_skip ?_ | refine cx_exit ?_ | fail)
  refine isx_blt ?_
  refine lx_own (fun M w hm cs => ⟨w, blt_ustr (Lib.run_unsafeString_none (P := Tryd.prog) w _ _ _ _), hm⟩) (fun h => h) rfl rfl rfl rfl rfl rfl ?_
  repeat (first | refine lx_not rfl rfl rfl rfl ?_ | refine lx_notu rfl rfl rfl rfl rfl ?_ | (refine isG ?_; refine gT rfl rfl rfl ?_) | (refine isU ?_; refine gU rfl ?_) | (refine isG ?_; refine gG rfl rfl ?_) | (refine isx_box ?_; refine gB rfl rfl rfl rfl rfl rfl ?_; intro b_) | (refine isx_alloc ?_; refine gA rfl rfl rfl rfl rfl rfl rfl ?_; intro b_) | (refine isx_store ?_; refine gS 0 rfl rfl rfl rfl rfl rfl rfl rfl rfl rfl ?_) | (refine isx_store ?_; refine gS 1 rfl rfl rfl rfl rfl rfl rfl rfl rfl rfl ?_) | (refine isx_store ?_; refine gS 2 rfl rfl rfl rfl rfl rfl rfl rfl rfl rfl ?_) | (refine isx_store ?_; refine gS 3 rfl rfl rfl rfl rfl rfl rfl rfl rfl rfl ?_) | (refine isx_row ?_; refine lx_row (E := EV) rfl rfl rfl rfl rfl rfl rfl rfl rfl rfl rfl rfl rfl ?_; intro b_) | refine lx_nil ?_ | with_reducible refine tq_n ?_ | with_reducible refine tq_r ?_ | with_reducible refine tq_e ?_ | with_reducible refine bk_n ?_ | with_reducible refine bk_r ?_ | (with_reducible refine bk_e ?_ ?_; exact rfl) | (with_reducible refine bk_x ?_ ?_; exact rfl) | refine cx_seq ?_ | refine cx_region ?_ | refine cx_block ?_ | refine cx_ret ?_ | refine cx_skip ?_ | refine cx_exit ?_ | fail)
  exact bq_ret (ret_tmp rfl rfl) [] (Gives.nil _) rfl ⟨rfl, rfl⟩
theorem string_fn (b : Nat) (u : Bool) (A : Option Addr) (m c : Nat) (l : List B8) (hl : l.length = m) (h0 : l ≠ []) : Fn Tryd.prog 33 [.pointer (some ⟨b, 0, none⟩)] [Bd b u A m c, .own A m c 5 1 (bvs l)] (bdD b A) fun v Lo => v = .string (sb l) ∧ Lo = [] := by
  have hne : m ≠ 0 := fun h => h0 (List.eq_nil_of_length_eq_zero (hl.trans h))
  refine fn_enter Tryd.func33 rfl rfl (by kernel_rfl) rfl ?_
  intro w0
  refine cx_fact (fun w hm => own_addr (k := 1) rfl (by omega) hm) fun ⟨g, hg⟩ => ?_
  subst hg
  refine cx_fact (fun w hm => own_cap 1 hm rfl) fun hc => ?_
  repeat (first | refine lx_not rfl rfl rfl rfl ?_ | refine lx_notu rfl rfl rfl rfl rfl ?_ | (refine isG ?_; refine gT rfl rfl rfl ?_) | (refine isU ?_; refine gU rfl ?_) | (refine isG ?_; refine gG rfl rfl ?_) | (refine isx_box ?_; refine gB rfl rfl rfl rfl rfl rfl ?_; intro b_) | (refine isx_alloc ?_; refine gA rfl rfl rfl rfl rfl rfl rfl ?_; intro b_) | (refine isx_store ?_; refine gS 0 rfl rfl rfl rfl rfl rfl rfl rfl rfl rfl ?_) | (refine isx_store ?_; refine gS 1 rfl rfl rfl rfl rfl rfl rfl rfl rfl rfl ?_) | (refine isx_store ?_; refine gS 2 rfl rfl rfl rfl rfl rfl rfl rfl rfl rfl ?_) | (refine isx_store ?_; refine gS 3 rfl rfl rfl rfl rfl rfl rfl rfl rfl rfl ?_) | (refine isx_row ?_; refine lx_row (E := EV) rfl rfl rfl rfl rfl rfl rfl rfl rfl rfl rfl rfl rfl ?_; intro b_) | refine lx_nil ?_ | with_reducible refine tq_n ?_ | with_reducible refine tq_r ?_ | with_reducible refine tq_e ?_ | with_reducible refine bk_n ?_ | with_reducible refine bk_r ?_ | (with_reducible refine bk_e ?_ ?_; exact rfl) | (with_reducible refine bk_x ?_ ?_; exact rfl) | refine cx_seq ?_ | refine cx_region ?_ | refine cx_block ?_ | refine cx_ret ?_ | refine cx_skip ?_ | refine cx_exit ?_ | fail)
  refine cx_draw [4, 10] [Bd b u (some ⟨g, 0, none⟩) m c] rfl (by kernel_rfl) (Gives.pick [0] (by decide) rfl) ?_
  repeat (first | refine lx_not rfl rfl rfl rfl ?_ | refine lx_notu rfl rfl rfl rfl rfl ?_ | (refine isG ?_; refine gT rfl rfl rfl ?_) | (refine isU ?_; refine gU rfl ?_) | (refine isG ?_; refine gG rfl rfl ?_) | (refine isx_box ?_; refine gB rfl rfl rfl rfl rfl rfl ?_; intro b_) | (refine isx_alloc ?_; refine gA rfl rfl rfl rfl rfl rfl rfl ?_; intro b_) | (refine isx_store ?_; refine gS 0 rfl rfl rfl rfl rfl rfl rfl rfl rfl rfl ?_) | (refine isx_store ?_; refine gS 1 rfl rfl rfl rfl rfl rfl rfl rfl rfl rfl ?_) | (refine isx_store ?_; refine gS 2 rfl rfl rfl rfl rfl rfl rfl rfl rfl rfl ?_) | (refine isx_store ?_; refine gS 3 rfl rfl rfl rfl rfl rfl rfl rfl rfl rfl ?_) | (refine isx_row ?_; refine lx_row (E := EV) rfl rfl rfl rfl rfl rfl rfl rfl rfl rfl rfl rfl rfl ?_; intro b_) | refine lx_nil ?_ | with_reducible refine tq_n ?_ | with_reducible refine tq_r ?_ | with_reducible refine tq_e ?_ | with_reducible refine bk_n ?_ | with_reducible refine bk_r ?_ | (with_reducible refine bk_e ?_ ?_; exact rfl) | (with_reducible refine bk_x ?_ ?_; exact rfl) | refine cx_seq ?_ | refine cx_region ?_ | refine cx_block ?_ | refine cx_ret ?_ | refine cx_skip ?_ | refine cx_exit ?_ | fail)
  refine isx_blt ?_
  refine lx_own (fun M w hm cs => ⟨w, blt_usd (Lib.run_unsafeSliceData_row (P := Tryd.prog) (w := w) _ _ _ _ _ (by omega)), hm⟩) (fun h => h) rfl rfl rfl rfl rfl rfl ?_
  repeat (first | refine lx_not rfl rfl rfl rfl ?_ | refine lx_notu rfl rfl rfl rfl rfl ?_ | (refine isG ?_; refine gT rfl rfl rfl ?_) | (refine isU ?_; refine gU rfl ?_) | (refine isG ?_; refine gG rfl rfl ?_) | (refine isx_box ?_; refine gB rfl rfl rfl rfl rfl rfl ?_; intro b_) | (refine isx_alloc ?_; refine gA rfl rfl rfl rfl rfl rfl rfl ?_; intro b_) | (refine isx_store ?_; refine gS 0 rfl rfl rfl rfl rfl rfl rfl rfl rfl rfl ?_) | (refine isx_store ?_; refine gS 1 rfl rfl rfl rfl rfl rfl rfl rfl rfl rfl ?_) | (refine isx_store ?_; refine gS 2 rfl rfl rfl rfl rfl rfl rfl rfl rfl rfl ?_) | (refine isx_store ?_; refine gS 3 rfl rfl rfl rfl rfl rfl rfl rfl rfl rfl ?_) | (refine isx_row ?_; refine lx_row (E := EV) rfl rfl rfl rfl rfl rfl rfl rfl rfl rfl rfl rfl rfl ?_; intro b_) | refine lx_nil ?_ | with_reducible refine tq_n ?_ | with_reducible refine tq_r ?_ | with_reducible refine tq_e ?_ | with_reducible refine bk_n ?_ | with_reducible refine bk_r ?_ | (with_reducible refine bk_e ?_ ?_; exact rfl) | (with_reducible refine bk_x ?_ ?_; exact rfl) | refine cx_seq ?_ | refine cx_region ?_ | refine cx_block ?_ | refine cx_ret ?_ | refine cx_skip ?_ | refine cx_exit ?_ | fail)
  refine isx_blt ?_
  refine lx_own (L' := [Bd b u (some ⟨g, 0, none⟩) m c]) (fun M w hm cs => (ustr_row hl h0 hm).imp fun w' h => ⟨blt_ustr h.1, h.2⟩) (fun _ => Gives.refl _) rfl rfl rfl rfl rfl rfl ?_
  repeat (first | refine lx_not rfl rfl rfl rfl ?_ | refine lx_notu rfl rfl rfl rfl rfl ?_ | (refine isG ?_; refine gT rfl rfl rfl ?_) | (refine isU ?_; refine gU rfl ?_) | (refine isG ?_; refine gG rfl rfl ?_) | (refine isx_box ?_; refine gB rfl rfl rfl rfl rfl rfl ?_; intro b_) | (refine isx_alloc ?_; refine gA rfl rfl rfl rfl rfl rfl rfl ?_; intro b_) | (refine isx_store ?_; refine gS 0 rfl rfl rfl rfl rfl rfl rfl rfl rfl rfl ?_) | (refine isx_store ?_; refine gS 1 rfl rfl rfl rfl rfl rfl rfl rfl rfl rfl ?_) | (refine isx_store ?_; refine gS 2 rfl rfl rfl rfl rfl rfl rfl rfl rfl rfl ?_) | (refine isx_store ?_; refine gS 3 rfl rfl rfl rfl rfl rfl rfl rfl rfl rfl ?_) | (refine isx_row ?_; refine lx_row (E := EV) rfl rfl rfl rfl rfl rfl rfl rfl rfl rfl rfl rfl rfl ?_; intro b_) | refine lx_nil ?_ | with_reducible refine tq_n ?_ | with_reducible refine tq_r ?_ | with_reducible refine tq_e ?_ | with_reducible refine bk_n ?_ | with_reducible refine bk_r ?_ | (with_reducible refine bk_e ?_ ?_; exact rfl) | (with_reducible refine bk_x ?_ ?_; exact rfl) | refine cx_seq ?_ | refine cx_region ?_ | refine cx_block ?_ | refine cx_ret ?_ | refine cx_skip ?_ | refine cx_exit ?_ | fail)
  exact bq_ret (ret_tmp rfl rfl) [] (Gives.nil _) rfl ⟨rfl, rfl⟩
end Go.Proofs.YthmdiopbiiimeaaDoor.bd
