/- sync.Once: the parts of its slow road, and its Do, over a function by its contract. -/
import Derived.Test.YtmochicneilhhaaGreatPEnv
import Derived.Test.YtmochicneilhhaaGreatPEt
import Derived.Test.YtmochicneilhhaaGreatPGo
import Derived.Test.YtmochicneilhhaaGreatChecked
import Derived.KernelRfl
import Derived.Tactics
import Derived.Tactics2
import Derived.Defers
import Derived.Laws.Pointers
import Derived.Laws.LoneSync
import Derived.RegionTactic
import Derived.RegionCalls
import Derived.ChangeAlike
namespace Go.Proofs.YtmochicneilhhaaGreat.once
open Go.RowKit
theorem disable (w : World) : (callFunc 181 #[]).run Tryz.prog w = .ok (.value (.tuple #[])) w := run_call_mark0 Tryz.func181 (by kernel_rfl) (by kernel_rfl) (by kernel_rfl) .disable (by kernel_rfl) w
theorem enable (w : World) : (callFunc 183 #[]).run Tryz.prog w = .ok (.value (.tuple #[])) w := run_call_mark0 Tryz.func183 (by kernel_rfl) (by kernel_rfl) (by kernel_rfl) .enable (by kernel_rfl) w
theorem acquire (a : Addr) (w : World) : (callFunc 184 #[.pointer (some a)]).run Tryz.prog w = .ok (.value (.tuple #[])) w := run_call_marked Tryz.func184 (by kernel_rfl) (by kernel_rfl) (by kernel_rfl) .acquire (by kernel_rfl) a w
theorem releaseMerge (a : Addr) (w : World) : (callFunc 186 #[.pointer (some a)]).run Tryz.prog w = .ok (.value (.tuple #[])) w := run_call_marked Tryz.func186 (by kernel_rfl) (by kernel_rfl) (by kernel_rfl) .releaseMerge (by kernel_rfl) a w

/-- '(*sync/atomic.Bool).Store(true)', entered as a deferred call: the cell holds 1. -/
theorem store_deferred (a : Addr) (x : Value) (u : FrameMode) (w : World) (hc : w.cell? a = some x) (hz : w.frozen? a = false) :
    CallsD Tryz.prog 176 #[.pointer (some a), .bool true] u w fun e u' w' => u' = u ∧ (e = .returned (.tuple #[]) ∧ w' = w.drew.setCell a (.int .u32 1)) := by
  have hc' : w.drew.cell? a = some x := by go_simp
  have hz' : w.drew.frozen? a = false := by go_simp
  have hst := run_call_store (P := Tryz.prog) Tryz.func179 (by kernel_rfl) (by kernel_rfl) (by kernel_rfl) (by kernel_rfl) (k := .u32) (y := 1) hc' hz'
  go_enter_d Tryz.func176, Tryz.ntmps176
  go_wp2
  go_region_calls
  all_goals (go_end0; exact ⟨rfl, rfl⟩)

set_option maxRecDepth 100000 in
/-- '(*sync.Mutex).Unlock', entered as a deferred call, the lock held and nobody waiting: it is free. -/
theorem unlock_deferred (a : Addr) (u : FrameMode) (w : World) (hc : w.cell? a = some (.int .i32 1)) (hz : w.frozen? a = false) :
    CallsD Tryz.prog 175 #[.pointer (some a)] u w fun e u' w' => u' = u ∧ (e = .returned (.tuple #[]) ∧ w' = w.setCell a (.int .i32 0)) := by
  have hd := disable
  have he := enable
  have hr := releaseMerge
  have hadd := run_call_add (P := Tryz.prog) Tryz.func187 (by kernel_rfl) (by kernel_rfl) (by kernel_rfl) .i32 (by kernel_rfl) (y := -1) (s := 0) hc hz (by simp [go_sem]; rfl)
  have hcv := run_convert_to_unsafe (P := Tryz.prog) (src := 248) (dst := 252) Tryz.underlying248 Tryz.underlying252 (by kernel_rfl) hc
  go_enter_d Tryz.func175, Tryz.ntmps175
  go_wp2
  go_end0
  go_wp2
  go_end0
  exact ⟨rfl, rfl⟩

set_option maxRecDepth 100000 in
/-- '(*sync.Mutex).Lock', the lock free: it is held. -/
theorem lock_free (a : Addr) (w : World) (hc : w.cell? a = some (.int .i32 0)) (hz : w.frozen? a = false) :
    Calls Tryz.prog 174 #[.pointer (some a)] w fun e w' => e = .returned (.tuple #[]) ∧ w' = w.setCell a (.int .i32 1) := by
  have hd := disable
  have he := enable
  have ha := acquire
  have hcas := run_call_cas_hit (P := Tryz.prog) Tryz.func182 (by kernel_rfl) (by kernel_rfl) (by kernel_rfl) .i32 (by kernel_rfl) (y := 1) hc hz
  have hc' : (w.setCell a (.int .i32 1)).cell? a = some (.int .i32 1) := World.cell?_setCell_same w a _ hc
  have hcv := run_convert_to_unsafe (P := Tryz.prog) (src := 248) (dst := 252) Tryz.underlying248 Tryz.underlying252 (by kernel_rfl) hc'
  go_enter Tryz.func174, Tryz.ntmps174
  go_wp2
  first | go_end0 | (simp only [Exit.inBlock, Exit.then]; refine bodyPost_ret (results_none rfl _ _ _) rfl ?_) | refine bodyPost_ret (results_none rfl _ _ _) rfl ?_
  go_wp2
  go_end0
  exact ⟨rfl, rfl⟩

set_option maxRecDepth 100000 in
set_option maxHeartbeats 1600000 in
theorem slow_any (b off : Nat) (g : FuncId) (cap : Array Value) (w : World) (R : World → Prop) (hg : Goes Tryz.prog g)
    (h0 : w.cell? ⟨b, off, none⟩ = some (.int .u32 0)) (h1 : w.cell? ⟨b, off + 1, none⟩ = some (.int .i32 0)) (f1 : w.frozen? ⟨b, off + 1, none⟩ = false)
    (hclo : Calls Tryz.prog g cap (w.setCell ⟨b, off + 1, none⟩ (.int .i32 1)) fun e w' => e = .returned (.tuple #[]) ∧ R w' ∧ w'.cell? ⟨b, off, none⟩ = some (.int .u32 0) ∧ w'.cell? ⟨b, off + 1, none⟩ = some (.int .i32 1) ∧ w'.frozen? ⟨b, off, none⟩ = false ∧ w'.frozen? ⟨b, off + 1, none⟩ = false) :
    Calls Tryz.prog 166 #[.pointer (some ⟨b, off, none⟩), .func (.func g) #[] cap] w fun e w' => e = .returned (.tuple #[]) ∧
      ∃ w2, R w2 ∧ w' = (w2.drew.setCell ⟨b, off, none⟩ (.int .u32 1)).setCell ⟨b, off + 1, none⟩ (.int .i32 0) := by
  have hl := run_call_load (P := Tryz.prog) Tryz.func173 (by kernel_rfl) (by kernel_rfl) (by kernel_rfl) .u32 (by kernel_rfl) (w := w.setCell ⟨b, off + 1, none⟩ (.int .i32 1)) (a := ⟨b, off, none⟩) (x := 0) ((World.cell?_setCell_other _ ⟨b, off + 1, none⟩ ⟨b, off, none⟩ _ (by simp)).trans h0)
  have hnot : ∀ (x : Bool) (w : World), (Op.unary .not (.bool x)).run Tryz.prog w = .ok (.bool (!x)) w := fun _ _ => rfl
  have hgo := hg cap (w.setCell ⟨b, off + 1, none⟩ (.int .i32 1))
  go_enter_defers Tryz.func166, Tryz.ntmps166
  go_wp2_with (go_at_call 174; refine (lock_free ⟨b, off + 1, none⟩ _ (by go_simp) (by go_simp)).mono ?_; rintro e w' ⟨rfl, rfl⟩)
  go_wp2
  refine hclo.mono ?_
  rintro e w2 ⟨rfl, hR, c0, c1, z0, z1⟩
  go_wp2
  refine leaves_cons (f := 176) (args := #[.pointer (some ⟨b, off, none⟩), .bool true]) (by simp) (by simp [go_sem]) ?_
  refine (store_deferred ⟨b, off, none⟩ (.int .u32 0) .returning _ c0 z0).mono ?_
  rintro e u' w'' ⟨rfl, rfl, rfl⟩
  refine leaves_cons (f := 175) (args := #[.pointer (some ⟨b, off + 1, none⟩)]) (by simp [settle]) (by simp [go_sem]) ?_
  refine (unlock_deferred ⟨b, off + 1, none⟩ _ _ ?_ (by simp [z1])).mono ?_
  · refine (World.cell?_setCell_other _ ⟨b, off, none⟩ ⟨b, off + 1, none⟩ _ (by simp)).trans ?_
    rw [World.cell?_drew]
    exact c1
  rintro e u' w'' ⟨rfl, rfl, rfl⟩
  simp [Leaves, settle, results, Tryz.results166]
  exact ⟨w2, hR, rfl⟩
theorem slow_fn (b : Nat) (g : FuncId) (cap rest rest' : List Value) (T : TypeId) (Lx : List Ck)
    (hclo : Fn Tryz.prog g cap (.blk b (.int .u32 0 :: .int .i32 1 :: rest) T :: Lx) [b] fun v Lo => v = .tuple #[] ∧ Lo = [.blk b (.int .u32 0 :: .int .i32 1 :: rest') T]) (hx : ∀ c ∈ Lx, c.mut_ = true → ∀ g, c.on g → g ∈ [b]) :
    Fn Tryz.prog 166 [.pointer (some ⟨b, 0, none⟩), .func (.func g) #[] cap.toArray] (.blk b (.int .u32 0 :: .int .i32 0 :: rest) T :: Lx) [b] fun v Lo => v = .tuple #[] ∧ Lo = [.blk b (.int .u32 1 :: .int .i32 0 :: rest') T] := by
  refine ⟨goes_of Tryz.func166 rfl rfl, fun w hm => ?_⟩
  have hm1 : Mem ⟨w, [b]⟩ (.blk b (.int .u32 0 :: .int .i32 1 :: rest) T :: Lx) (w.setCell ⟨b, 1, none⟩ (.int .i32 1)) := hm.store (k := 0) (off := 1) rfl (.int .i32 1)
  have hm2 : Mem ⟨w.setCell ⟨b, 1, none⟩ (.int .i32 1), [b]⟩ (.blk b (.int .u32 0 :: .int .i32 1 :: rest) T :: Lx) (w.setCell ⟨b, 1, none⟩ (.int .i32 1)) :=
    ⟨Keep.refl _ _, hm1.all, fun c hc hcm g hg => .inl (by
      rcases List.mem_cons.1 hc with rfl | hc
      · cases hg; exact List.mem_cons_self ..
      · exact hx c hc hcm g hg), hm1.sep⟩
  refine (slow_any b 0 g cap.toArray w (fun w2 => Mem ⟨w, [b]⟩ (.blk b (.int .u32 0 :: .int .i32 1 :: rest') T :: Lx) w2) hclo.1 (hm.cell (k := 0) rfl rfl) (hm.cell (k := 0) rfl rfl) (hm.free (k := 0) rfl _) ((hclo.2 _ hm2).mono ?_)).mono ?_
  · rintro e w2 ⟨v, Lo, rfl, ⟨rfl, rfl⟩, hm3, hmu⟩
    have hm4 := Mem.call (L1 := [.blk b (.int .u32 0 :: .int .i32 1 :: rest) T]) (L2 := Lx) hm1 (fun g hg => ⟨_, List.mem_cons_self .., rfl, (List.mem_singleton.1 hg).symm⟩) hm3 hmu
    exact ⟨rfl, hm4, hm4.cell (k := 0) rfl rfl, hm4.cell (k := 0) rfl rfl, hm4.free (k := 0) rfl _, hm4.free (k := 0) rfl _⟩
  · rintro e w' ⟨rfl, w2, hm5, rfl⟩
    have hm6 := (hm5.drew.store (k := 0) (off := 0) rfl (.int .u32 1)).store (k := 0) (off := 1) rfl (.int .i32 0)
    exact ⟨_, _, rfl, ⟨rfl, rfl⟩, hm6.pick [0] (by decide), rfl⟩
attribute [local irreducible] LX CX Yl Gives RetIs Fn
theorem load_ext {L : List Ck} {b off m : Nat} {d : Int} {cs : List Value} (k : Nat) (hk : L[k]? = some (.ro (some ⟨b, 0, none⟩) m 1 cs)) (hd : cs[off]? = some (.int .u32 d)) (M : Me) (w : World) (hm : Mem M L w) :
    (callFunc 173 #[.pointer (some ⟨b, off, none⟩)]).run Tryz.prog w = .ok (.value (.int .u32 d)) w :=
  run_call_load (P := Tryz.prog) Tryz.func173 (by kernel_rfl) (by kernel_rfl) (by kernel_rfl) .u32 (by kernel_rfl) (ro_cell hm hk hd)
theorem load_fn (b : Nat) (d : Int) (off m : Nat) (cs : List Value) (hd : cs[off]? = some (.int .u32 d)) : Fn Tryz.prog 165 [.pointer (some ⟨b, off, none⟩)] [.ro (some ⟨b, 0, none⟩) m 1 cs] [] fun v Lo => v = .bool (d != 0) ∧ Lo = [] := by
  refine fn_enter Tryz.func165 rfl rfl (by kernel_rfl) rfl ?_
  intro w0
  repeat (first | (refine isx_call ?_; (refine lx_ext0 (load_ext 0 rfl hd) rfl rfl rfl rfl rfl rfl rfl rfl ?_)) | refine wz ?_ | (refine wzb ?_; intro b_) | fail)
  exact bq_ret (ret_tmp rfl rfl) [] (Gives.nil _) rfl ⟨rfl, rfl⟩
/-- not yet done -/
theorem do_fn (b : Nat) (g : FuncId) (cap rest rest' : List Value) (T : TypeId) (Lx : List Ck)
    (hclo : Fn Tryz.prog g cap (.blk b (.int .u32 0 :: .int .i32 1 :: rest) T :: Lx) [b] fun v Lo => v = .tuple #[] ∧ Lo = [.blk b (.int .u32 0 :: .int .i32 1 :: rest') T]) (hx : ∀ c ∈ Lx, c.mut_ = true → ∀ g, c.on g → g ∈ [b]) :
    Fn Tryz.prog 146 [.pointer (some ⟨b, 0, none⟩), .func (.func g) #[] cap.toArray] (.blk b (.int .u32 0 :: .int .i32 0 :: rest) T :: Lx) [b] fun v Lo => v = .tuple #[] ∧ Lo = [.blk b (.int .u32 1 :: .int .i32 0 :: rest') T] := by
  have hx' : ∀ c ∈ (Ck.blk b (.int .u32 0 :: .int .i32 0 :: rest) T :: Lx), c.mut_ = true → ∀ g, c.on g → g ∈ [b] := by
    intro c hc hcm g hg
    rcases List.mem_cons.1 hc with rfl | hc
    · cases hg; exact List.mem_cons_self ..
    · exact hx c hc hcm g hg
  refine fn_enter Tryz.func146 rfl rfl (by kernel_rfl) rfl ?_
  intro w0
  repeat (first | (refine isx_call ?_; refine lx_gcallt (load_fn b 0 0 (rest.length + 2) _ rfl) ((fun w hm => in_ro (row_blk 0 rfl (by simp) hm) (in_nil hm) rfl)) rfl rfl rfl rfl rfl rfl rfl ?_) | refine wzt ?_ | (refine wzb ?_; intro b_) | fail)
  refine cx_cond rfl (fun _ => ?_) (fun h => absurd h (by decide))
  repeat (first | refine wz ?_ | (refine wzb ?_; intro b_) | fail)
  refine lx_call (slow_fn b g cap rest rest' T Lx hclo hx) [.blk b (.int .u32 0 :: .int .i32 0 :: rest) T] Lx (Gives.refl _) (fun w hm => hm.again [b] hx') (fun g hg => ⟨_, List.mem_cons_self .., rfl, (List.mem_singleton.1 hg).symm⟩) (fun _ _ => trivial) rfl rfl rfl rfl rfl rfl rfl (by simp) ?_
  rintro v_ Lo_ ⟨rfl, rfl⟩
  repeat (first | refine wz ?_ | (refine wzb ?_; intro b_) | fail)
  exact bq_end (ret_none rfl) [_] (Gives.left _ _) rfl ⟨rfl, rfl⟩
/-- done already -/
theorem done_fn (b : Nat) (fv : Value) (cs : List Value) (m : Nat) (hd : cs[0]? = some (.int .u32 1)) :
    Fn Tryz.prog 146 [.pointer (some ⟨b, 0, none⟩), fv] [.ro (some ⟨b, 0, none⟩) m 1 cs] [] fun v Lo => v = .tuple #[] ∧ Lo = [] := by
  refine fn_enter Tryz.func146 rfl rfl (by kernel_rfl) rfl ?_
  intro w0
  repeat (first | (refine isx_call ?_; refine lx_gcallt (load_fn b 1 0 m _ hd) ((fun w hm => in_ro (row_ro 0 rfl hm) (in_nil hm) rfl)) rfl rfl rfl rfl rfl rfl rfl ?_) | refine wzt ?_ | (refine wzb ?_; intro b_) | fail)
  refine cx_cond rfl (fun h => absurd h (by decide)) (fun _ => ?_)
  repeat (first | refine wz ?_ | (refine wzb ?_; intro b_) | fail)
  exact bq_end (ret_none rfl) [] (Gives.nil _) rfl ⟨rfl, rfl⟩
end Go.Proofs.YtmochicneilhhaaGreat.once
