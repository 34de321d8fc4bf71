/- More rules: maps with texts as keys; atomic numbers; sync.Once inside a struct. -/
import Derived.Test.YtbhbimfljjgijaaGo
import Derived.Test.YtbhbimfljjgijaaIv
import Derived.MapKept
import Derived.Carry
import Derived.Laws.LoneSync
namespace Go.Proofs.Ytbhbimfljjgijaa
open Go.RowKit
section
variable {P : Program} {n : Nat} {M : Me} {Q : Post} {t : Fr} {L : List Ck} {ops : Array Oper} {s : Way} {i : Nat} {rest : List Oper}
theorem isx_makeMap {dst : Option Tmp} {ty : TypeId} {pos : String} {after : Array Edge} {guard : Option (Nat × Bool)} {T : TypeId} {x : Option Operand} (h : LX P n M ops s i (⟨dst, .makeMap T x, ty, pos, after, guard⟩ :: rest) Q t L) : LX P n M ops s i (⟨dst, .makeMap T x, ty, pos, after, guard⟩ :: rest) Q t L := h
theorem isx_mapUpdate {dst : Option Tmp} {ty : TypeId} {pos : String} {after : Array Edge} {guard : Option (Nat × Bool)} {T : TypeId} {m k v : Operand} (h : LX P n M ops s i (⟨dst, .mapUpdate T m k v, ty, pos, after, guard⟩ :: rest) Q t L) : LX P n M ops s i (⟨dst, .mapUpdate T m k v, ty, pos, after, guard⟩ :: rest) Q t L := h
/-- a new map -/
theorem lx_makeMap {T : TypeId} {dst : Option Tmp} {ty : TypeId} {pos : String} {after : Array Edge} {guard : Option (Nat × Bool)} {d : Nat} (hl : s.loud i = true) {p : Option Bool} (hg : gOf ops t ⟨dst, .makeMap T none, ty, pos, after, guard⟩ = some p) (hp : cb p = true) (hd : dst = some d) (hn : Nat.blt d n = true)
    (hgs : ∀ b, s.gives L → s.gives (.obj b (.map #[] 0) :: L))
    (h : ∀ b, LX P n M ops s (i + 1) rest Q ((d, none, .map (some b)) :: t) (.obj b (.map #[] 0) :: L)) : LX P n M ops s i (⟨dst, .makeMap T none, ty, pos, after, guard⟩ :: rest) Q t L :=
  lx_loud hl hg hp fun a w hf hm hs K hK => by
    have key : (execOp a.eval ⟨dst, .makeMap T none, ty, pos, after, guard⟩).run P w = .ok (.value (.map (some w.heap.size))) (w.alloc (.map #[] 0)) := rfl
    unfold Oper.wp
    rw [key]
    show K (a.put dst (.map (some w.heap.size))) (w.alloc (.map #[] 0))
    rw [hd]
    exact hK _ _ _ _ (hf.put1 (Nat.le_of_ble_eq_true hn) _) (hm.newobj _) (hgs _ hs) (h _)
/-- no entry bears this text -/
def fresh (u : ByteArray) (es : List MapEntry) : Prop := ∀ e ∈ es, ∃ x, e.key = .string x ∧ x ≠ u
theorem find_fresh {u : ByteArray} : ∀ {es : List MapEntry} (q : Nat), fresh u es → Instr.findNow .string (.string u) es q = some none
  | [], _, _ => rfl
  | e :: es, q, h => by
    obtain ⟨x, hx, hne⟩ := h e (List.mem_cons_self ..)
    unfold Instr.findNow
    rw [hx]
    have : Instr.sameNow .string (.string u) (.string x) = some false := by
      show some (u == x) = some false
      cases hb : u == x with
      | false => rfl
      | true => exact absurd ((MapKept.bytes_beq u x).1 hb).symm hne
    rw [this]
    exact find_fresh (q + 1) fun e he => h e (List.mem_cons_of_mem _ he)
/-- a text's entry, written for the first time -/
theorem lx_mapPut {T kt et : TypeId} {m x y : Operand} {ty : TypeId} {pos : String} {after : Array Edge} {guard : Option (Nat × Bool)} {b c : Nat} {es : Array MapEntry} {u : ByteArray} {v : Value} (k : Nat) (hl : s.loud i = true) {p : Option Bool} (hg : gOf ops t ⟨none, .mapUpdate T m x y, ty, pos, after, guard⟩ = some p) (hp : cb p = true)
    (hT : P.underlying T = some (.map kt et)) (hk' : P.underlying kt = some .string) (hm' : o1 t m = some (.map (some b))) (hx : o1 t x = some (.string u)) (hy : o1 t y = some v) (hk : L[k]? = some (.obj b (.map es c))) (hf' : fresh u es.toList)
    (hgs : s.gives L → s.gives (L.set k (.obj b (.map (es.push ⟨.string u, v, c⟩) (c + 1)))))
    (h : LX P n M ops s (i + 1) rest Q t (L.set k (.obj b (.map (es.push ⟨.string u, v, c⟩) (c + 1))))) : LX P n M ops s i (⟨none, .mapUpdate T m x y, ty, pos, after, guard⟩ :: rest) Q t L :=
  lx_loud hl hg hp fun a w hf hm hs K hK => by
    have ho : w.heap[b]? = some (.map es c) := hm.get hk
    have hb : b < w.heap.size := (Array.getElem?_eq_some_iff.1 ho).1
    have hgo : (getObj b).run P w = .ok (.map es c) w := by simp [getObj, Sem.run, ho]
    have hso : ∀ o, (setObj b o).run P w = .ok () { w with heap := w.heap.setIfInBounds b o } := fun o => by simp [setObj, Sem.run, ho]
    have hck : (Instr.checkKey false 10000 kt (.string u)).run P w = .ok () w := MapKept.run_checkKey hk' (by simp [MapKept.IsKey]) false 9999
    have hfk : (Instr.findKey kt (.string u) es.toList).run P w = .ok none w := by
      unfold Instr.findKey
      simp only [Sem.run_bind, run_underlying hk', Result.andThen_ok, find_fresh 0 hf', Sem.run_pure]
    have key : (execOp a.eval ⟨none, .mapUpdate T m x y, ty, pos, after, guard⟩).run P w = .ok .skip { w with heap := w.heap.setIfInBounds b (.map (es.push ⟨.string u, v, c⟩) (c + 1)) } := by
      unfold execOp
      dsimp only
      rw [hf.o1 hm', hf.o1 hx, hf.o1 hy]
      unfold Instr.mapUpdate
      simp only [Sem.run_bind, run_underlying hT, Result.andThen_ok, hgo, hck, hfk, hso, Sem.run_pure]
    unfold Oper.wp
    rw [key]
    show K a _
    refine hK _ _ _ _ hf ?_ (hgs hs) h
    refine hm.turn hk rfl (fun b hb => .inl hb) rfl rfl rfl ?_ (fun g hg hne => ?_) ?_
    · simp
    · rw [Array.getElem?_setIfInBounds_ne]
      exact fun e => hne e
    · show (w.heap.setIfInBounds b _)[b]? = _
      simp [hb]
def lookV (z : Value) : Option (Nat × Value) → Value
  | some q => q.2
  | none => z
/-- a text looked up -/
theorem yl_lookup {E : Env P} {p c1 c2 : Option Bool} {dst : Option Tmp} {T kt et : TypeId} {m x : Operand} {ty : TypeId} {pos : String} {after : Array Edge} {guard : Option (Nat × Bool)} {b c : Nat} {es : Array MapEntry} {u : ByteArray} {j : TyI} {z : Value} {r : Option (Nat × Value)} (k : Nat)
    (hm' : ov t m = some (c1, .map (some b))) (hx : ov t x = some (c2, .string u)) (hT : P.underlying T = some (.map kt et)) (hk' : P.underlying kt = some .string) (he : E.f et = some j) (hz : j.zero = some z) (hk : L[k]? = some (.obj b (.map es c))) (hr : Instr.findNow .string (.string u) es.toList 0 = some r) (h1 : cb p = true → cb c1 = true) (h2 : cb p = true → cb c2 = true) :
    Yl P n t L p ⟨dst, .lookup T m x true, ty, pos, after, guard⟩ (.tuple #[lookV z r, .bool r.isSome]) := fun hp M a w hf hm => by
  have ho : w.heap[b]? = some (.map es c) := hm.get hk
  have hgo : (getObj b).run P w = .ok (.map es c) w := by simp [getObj, Sem.run, ho]
  have hck : ∀ e, (Instr.checkKey e 10000 kt (.string u)).run P w = .ok () w := fun e => MapKept.run_checkKey hk' (by simp [MapKept.IsKey]) e 9999
  have hfk : (Instr.findKey kt (.string u) es.toList).run P w = .ok r w := by
    unfold Instr.findKey
    simp only [Sem.run_bind, run_underlying hk', Result.andThen_ok, hr, Sem.run_pure]
  obtain ⟨g, hgi, g1, g2, g3⟩ := E.info he
  unfold execOp
  refine run_v ?_
  rw [hf.ov hm' (h1 hp), hf.ov hx (h2 hp)]
  unfold Instr.lookup
  cases r with
  | none =>
    simp only [Sem.run_bind, run_underlying hT, Result.andThen_ok, hgo, hck, hfk, Sem.run_pure, E.zero he hz w]
    rfl
  | some q =>
    simp only [Sem.run_bind, run_underlying hT, Result.andThen_ok, hgo, hck, hfk, Sem.run_pure]
    rfl
/-- an atomic number, raised -/
theorem add_ext {L : List Ck} {b off : Nat} {cs : List Value} {T : TypeId} {x y : BitVec 64} (k : Nat) (hk : L[k]? = some (.blk b cs T)) (hv : cs[off]? = some (.int .u64 x.toNat)) (M : Me) (w : World) (hm : Mem M L w) :
    ∃ w', (callFunc 84 #[.pointer (some ⟨b, off, none⟩), .int .u64 y.toNat]).run Try.prog w = .ok (.value (.int .u64 (x + y).toNat)) w' ∧ Mem M (L.set k (.blk b (cs.set off (.int .u64 (x + y).toNat)) T)) w' :=
  ⟨_, run_call_add (P := Try.prog) Try.func84 (by kernel_rfl) (by kernel_rfl) (by kernel_rfl) .u64 (by kernel_rfl) (hm.cell hk hv) (hm.free hk _) (by
    have e : IntKind.u64.wrap ((x.toNat : Int) + (y.toNat : Int)) = ((x + y).toNat : Int) := by
      have h1 : (x + y).toNat = (x.toNat + y.toNat) % 18446744073709551616 := by rw [BitVec.toNat_add]
      rw [h1]
      unfold IntKind.wrap
      simp [IntKind.bits, IntKind.signed]
    simp [Op.intArith, e]), hm.store hk _⟩
theorem load64_ext {L : List Ck} {b off m : Nat} {x : BitVec 64} {cs : List Value} (k : Nat) (hk : L[k]? = some (.ro (some ⟨b, 0, none⟩) m 1 cs)) (hd : cs[off]? = some (.int .u64 x.toNat)) (M : Me) (w : World) (hm : Mem M L w) :
    (callFunc 85 #[.pointer (some ⟨b, off, none⟩)]).run Try.prog w = .ok (.value (.int .u64 x.toNat)) w :=
  run_call_load (P := Try.prog) Try.func85 (by kernel_rfl) (by kernel_rfl) (by kernel_rfl) .u64 (by kernel_rfl) (ro_cell hm hk hd)
attribute [local irreducible] LX CX Yl Gives RetIs Fn
theorem add_fn (b off : Nat) (cs : List Value) (T : TypeId) (x y : BitVec 64) (h : cs[off]? = some (.int .u64 x.toNat)) : Fn Try.prog 66 [.pointer (some ⟨b, off, none⟩), .int .u64 y.toNat] [.blk b cs T] [b] fun v Lo => v = .int .u64 (x + y).toNat ∧ Lo = [.blk b (cs.set off (.int .u64 (x + y).toNat)) T] := by
  refine fn_enter Try.func66 rfl rfl (by kernel_rfl) rfl ?_
  intro w0
  repeat (first | (refine isU ?_; refine gU rfl ?_) | (refine isG ?_; refine gG rfl rfl ?_) | (refine isx_call ?_; (refine lx_ext (add_ext 0 rfl h) (fun h => h) rfl rfl rfl rfl rfl rfl rfl rfl ?_)) | (refine isx_box ?_; refine gB rfl rfl rfl rfl rfl rfl ?_; intro b_) | (refine isx_alloc ?_; refine gA rfl rfl rfl rfl rfl rfl rfl ?_; intro b_) | (refine isx_store ?_; refine gS 0 rfl rfl rfl rfl rfl rfl rfl rfl rfl rfl ?_) | (refine isx_store ?_; refine gS 1 rfl rfl rfl rfl rfl rfl rfl rfl rfl rfl ?_) | (refine isx_store ?_; refine gS 2 rfl rfl rfl rfl rfl rfl rfl rfl rfl rfl ?_) | (refine isx_store ?_; refine gS 3 rfl rfl rfl rfl rfl rfl rfl rfl rfl rfl ?_) | (refine isx_row ?_; refine lx_row (E := EV) rfl rfl rfl rfl rfl rfl rfl rfl rfl rfl rfl rfl rfl ?_; intro b_) | refine lx_nil ?_ | with_reducible refine tq_n ?_ | with_reducible refine tq_r ?_ | with_reducible refine tq_e ?_ | with_reducible refine bk_n ?_ | with_reducible refine bk_r ?_ | (with_reducible refine bk_e ?_ ?_; exact rfl) | (with_reducible refine bk_x ?_ ?_; exact rfl) | refine cx_seq ?_ | refine cx_region ?_ | refine cx_block ?_ | refine cx_ret ?_ | refine cx_skip ?_ | refine cx_exit ?_ | fail)
  exact bq_ret (ret_tmp rfl rfl) [_] (Gives.refl _) rfl ⟨rfl, rfl⟩
theorem load64_fn (b off m : Nat) (cs : List Value) (x : BitVec 64) (hd : cs[off]? = some (.int .u64 x.toNat)) : Fn Try.prog 67 [.pointer (some ⟨b, off, none⟩)] [.ro (some ⟨b, 0, none⟩) m 1 cs] [] fun v Lo => v = .int .u64 x.toNat ∧ Lo = [] := by
  refine fn_enter Try.func67 rfl rfl (by kernel_rfl) rfl ?_
  intro w0
  repeat (first | (refine isU ?_; refine gU rfl ?_) | (refine isG ?_; refine gG rfl rfl ?_) | (refine isx_call ?_; (refine lx_ext0 (load64_ext 0 rfl hd) rfl rfl rfl rfl rfl rfl rfl rfl ?_)) | (refine isx_box ?_; refine gB rfl rfl rfl rfl rfl rfl ?_; intro b_) | (refine isx_alloc ?_; refine gA rfl rfl rfl rfl rfl rfl rfl ?_; intro b_) | (refine isx_store ?_; refine gS 0 rfl rfl rfl rfl rfl rfl rfl rfl rfl rfl ?_) | (refine isx_store ?_; refine gS 1 rfl rfl rfl rfl rfl rfl rfl rfl rfl rfl ?_) | (refine isx_store ?_; refine gS 2 rfl rfl rfl rfl rfl rfl rfl rfl rfl rfl ?_) | (refine isx_store ?_; refine gS 3 rfl rfl rfl rfl rfl rfl rfl rfl rfl rfl ?_) | (refine isx_row ?_; refine lx_row (E := EV) rfl rfl rfl rfl rfl rfl rfl rfl rfl rfl rfl rfl rfl ?_; intro b_) | refine lx_nil ?_ | with_reducible refine tq_n ?_ | with_reducible refine tq_r ?_ | with_reducible refine tq_e ?_ | with_reducible refine bk_n ?_ | with_reducible refine bk_r ?_ | (with_reducible refine bk_e ?_ ?_; exact rfl) | (with_reducible refine bk_x ?_ ?_; exact rfl) | refine cx_seq ?_ | refine cx_region ?_ | refine cx_block ?_ | refine cx_ret ?_ | refine cx_skip ?_ | refine cx_exit ?_ | fail)
  exact bq_ret (ret_tmp rfl rfl) [] (Gives.nil _) rfl ⟨rfl, rfl⟩
end
end Go.Proofs.Ytbhbimfljjgijaa
