/- More rules: a text behind bytes, zeros, empty rows, own rows cut. Rows of rows of bytes, as they are read. Rows cut. packed numbers, plainly: bytes, the highest first. -/
import Derived.Test.YtmochicneilhhaaGreatPRd
import Derived.Test.YtmochicneilhhaaGreatPRf
import Derived.Lib.AppendStr
import Derived.Lib.AppendZeros
namespace Go.Proofs.YtmochicneilhhaaGreat
open Go.RowKit
theorem strCells_sb (l : List B8) : Lib.strCells (sb l) = bvs l := by
  rw [Lib.strCells, sb_list, bvs, List.map_map]
  rfl
section
variable {P : Program} {n : Nat} {M : Me} {Q : Post} {t : Fr} {L : List Ck} {ops : Array Oper} {s : Way} {i : Nat} {rest : List Oper}
/-- what an append leaves of the chunks -/
theorem Mem.grew {w w' : World} {k : Nat} {A A' : Option Addr} {q c m c' sz : Nat} {e : TypeId} {xs ys : List Value} (hm : Mem M L w) (hk : L[k]? = some (.own A q c e sz xs)) (hown : w'.ownsRow 0 e sz (.slice A' m c') m ys) (hgr : w.grownBy w' (Value.ownBlock (.slice A q c)))
    (hat : Value.ownBlock (.slice A' m c') = Value.ownBlock (.slice A q c) ∨ Value.ownBlock (.slice A' m c') = some w.heap.size ∨ A' = none) : Mem M (L.set k (.own A' m c' e sz ys)) w' := by
  refine hm.turn (c' := .own A' m c' e sz ys) hk rfl (fun b hb => ?_) hgr.os hgr.tape hgr.output hgr.size (fun b hb hne => ?_) hown
  · cases A' with
    | none => cases hb
    | some a' =>
      cases hb
      rcases hat with h5 | h5 | h5
      · left
        cases A with
        | none => cases h5
        | some a0 => exact h5.symm
      · right
        simp only [Value.ownBlock, Option.some.injEq] at h5
        show w.heap.size ≤ a'.block
        omega
      · cases h5
  · refine hgr.block b hb fun e5 => hne ?_
    cases A with
    | none => cases e5
    | some a0 => exact e5.symm
theorem run_appendS (w : World) (t u ty e : TypeId) (i : TypeInfo) (ht : P.underlying t = some (.slice e)) (hu : P.underlying u = some .string) (hi : P.info? e = some i) (hz : i.zero = some (.int .u8 0)) (hsize : i.size = 1) (hby : i.bytes = 1)
    (v : Value) (n : Nat) (xs : List Value) (hown : w.ownsRow 0 e 1 v n xs) (s : ByteArray) (h63 : n + s.size ≤ maxLen) (hbytes : n + s.size ≤ 140737488355328) :
    ∃ v' w', (Builtin.append_ #[t, u] ty #[v, .string s]).run P w = .ok v' w' ∧ Grew w 0 e 1 v (n + s.size) (xs ++ Lib.strCells s) v' w' := by
  obtain ⟨v', w', hr, ho', hgr, hnil⟩ := Lib.run_append_own_string (P := P) w 0 t u ty e i ht hu hi hz hsize hby v n xs hown s h63 hbytes (Nat.zero_le _)
  refine ⟨v', w', hr, ho', hgr, ?_⟩
  have hxl : xs.length = n := by simpa using hown.1
  have hsmall : n + s.size ≤ 9223372036854775807 := by simp only [maxLen] at h63; omega
  rcases hown.2 with ⟨rfl, rfl⟩ | ⟨g, cap, cur, rfl, hbg, hg, hnc, hcm, hcs, htake⟩
  · by_cases hm : s.size = 0
    · left
      rw [hnil.2 ⟨rfl, hm⟩]
    · right
      have h2 := run_append_nil_string (P := P) w t u ty e i (.int .u8 0) ht hu hi hz s (by omega) (by omega) (by rw [hby]; omega)
      rw [hr] at h2
      simp only [Result.ok.injEq] at h2
      rw [h2.1]
      rfl
  · by_cases hroom : n + s.size ≤ cap
    · left
      have h2 := Lib.run_append_room_string (P := P) w t u ty e i ht hu hi hsize g n cap cur hg s hroom (by omega)
      rw [hr] at h2
      simp only [Result.ok.injEq] at h2
      rw [h2.1]
      rfl
    · right
      have holds : ∀ j u, xs[j]? = some u → w.cell? ((⟨g, 0, none⟩ : Addr).add j) = some u := hown.cells (g := g) rfl
      have h2 := Lib.run_append_grow_string (P := P) w t u ty e i (.int .u8 0) ht hu hi hz ⟨g, 0, none⟩ n cap xs (by rw [hsize]; simpa using hxl) holds s (by omega) (by omega) (by rw [hby]; exact growslice_fits (by omega) (by omega))
      rw [hr] at h2
      simp only [Result.ok.injEq] at h2
      rw [h2.1]
      rfl
/-- a text behind an own row of bytes -/
theorem lx_appendS {E : Env P} {d : Nat} {x y : Operand} {T U : TypeId} {ty : TypeId} {pos : String} {after : Array Edge} {guard : Option (Nat × Bool)} {p : Option Bool} (k : Nat) {A : Option Addr} {q c : Nat} {e : TypeId} {j : TyI} {xs : List Value} {l : List B8}
    (hl : s.loud i = true) (hg : gOf ops t ⟨some d, .call ⟨.builtin .append, #[x, y], #[T, U]⟩, ty, pos, after, guard⟩ = some p) (hp : cb p = true) (hn : Nat.blt d n = true)
    (hx : o1 t x = some (.slice A q c)) (hy : o1 t y = some (.string (sb l))) (hT : tyOf E.f T = .slice e) (hU : tyOf E.f U = .string) (he : E.f e = some j) (hz : j.zero = some (.int .u8 0)) (hsz : j.size = 1) (hby : j.bytes = 1) (hk : L[k]? = some (.own A q c e 1 xs))
    (h63 : q + l.length ≤ 140737488355328) (hgs : ∀ A' c', s.gives L → s.gives (L.set k (.own A' (q + l.length) c' e 1 (xs ++ bvs l))))
    (h : ∀ A' c', LX P n M ops s (i + 1) rest Q ((d, none, .slice A' (q + l.length) c') :: t) (L.set k (.own A' (q + l.length) c' e 1 (xs ++ bvs l)))) : LX P n M ops s i (⟨some d, .call ⟨.builtin .append, #[x, y], #[T, U]⟩, ty, pos, after, guard⟩ :: rest) Q t L :=
  lx_loud hl hg hp fun a w hf hm hs K hK => by
    obtain ⟨g, hgi, g1, g2, g3⟩ := E.info he
    have hown : w.ownsRow 0 e 1 (.slice A q c) q xs := hm.get hk
    obtain ⟨v', w', hr, hgr⟩ := run_appendS (P := P) w T U ty e g (tyOf_slice hT) (tyOf_string hU) hgi (g3.trans hz) (g1.trans hsz) (g2.trans hby) (.slice A q c) q xs hown (sb l) (by rw [sb_size]; unfold maxLen; omega) (by rw [sb_size]; omega)
    rw [sb_size, strCells_sb] at hgr
    obtain ⟨A', c', rfl⟩ := own_shape hgr.own
    unfold Oper.wp execOp
    simp only [resolve, invoke, builtin, Sem.run_bind, Sem.run_pure, Result.andThen_ok, List.map_toArray, List.map_cons, List.map_nil, hf.o1 hx, hf.o1 hy, hr]
    refine hK _ _ _ _ (hf.put1 (Nat.le_of_ble_eq_true hn) _) (hm.grew hk hgr.own hgr.grown ?_) (hgs A' c' hs) (h A' c')
    rcases hgr.at_ with h5 | h5
    · exact .inl h5
    · exact .inr (.inl h5)
/-- so many zeros, new -/
theorem lx_zeros {E : Env P} {d : Nat} {x y : Operand} {T U : TypeId} {ty : TypeId} {pos : String} {after : Array Edge} {guard : Option (Nat × Bool)} {p : Option Bool} {e : TypeId} {j : TyI} {κ κ' : IntKind} {m : Nat} {mi : Int}
    (hl : s.loud i = true) (hg : gOf ops t ⟨some d, .call ⟨.builtin .append, #[x, y], #[T, U]⟩, ty, pos, after, guard⟩ = some p) (hp : cb p = true) (hn : Nat.blt d n = true)
    (hx : o1 t x = some (.slice none 0 0)) (hy : o1 t y = some (.int κ mi)) (hmi : mi = m) (hT : tyOf E.f T = .slice e) (hU : tyOf E.f U = .int κ') (he : E.f e = some j) (hz : j.zero = some (.int .u8 0)) (hsz : j.size = 1) (hby : j.bytes = 1)
    (h0 : 0 < m) (h63 : m ≤ 140737488355328)
    (h : ∀ A' c', LX P n M ops s (i + 1) rest Q ((d, none, .slice A' m c') :: t) (.own A' m c' e 1 (List.replicate m (.int .u8 0)) :: L)) : LX P n M ops s i (⟨some d, .call ⟨.builtin .append, #[x, y], #[T, U]⟩, ty, pos, after, guard⟩ :: rest) Q t L :=
  lx_loud hl hg hp fun a w hf hm hs K hK => by
    obtain ⟨g, hgi, g1, g2, g3⟩ := E.info he
    have hr := Lib.run_append_nil_zeros (P := P) w T U ty e g (.int .u8 0) κ κ' (tyOf_slice hT) (tyOf_int hU) hgi (g3.trans hz) m h0 (by rw [g1, hsz]; exact Nat.one_pos) (by omega) (by rw [g2, hby]; omega)
    have hge := grownCap_ge w m 0 e
    have hcm : grownCap w m 0 e ≤ maxLen := grownCap_le_maxLen w m 0 e (by unfold maxLen; omega)
    have e1 : (Builtin.zeroCells (Value.int IntKind.u8 0).cells m).toList = List.replicate m (.int .u8 0) := by
      apply List.ext_getElem
      · simp [Builtin.zeroCells, Value.cells]
      · intro i h1 h2
        simp [Builtin.zeroCells, Value.cells, Nat.mod_one]
    have hown : (w.drew.alloc (.cells (Builtin.zeroCells (Value.int IntKind.u8 0).cells m ++ Builtin.zeroCells (Value.int IntKind.u8 0).cells (grownCap w m 0 e - m)) e)).ownsRow 0 e 1 (.slice (some ⟨w.heap.size, 0, none⟩) m (grownCap w m 0 e)) m (List.replicate m (.int .u8 0)) := by
      refine ⟨by simp, .inr ⟨w.heap.size, _, _, rfl, Nat.zero_le _, heap_alloc_new w.drew _, hge, hcm, ?_, ?_⟩⟩
      · simp [size_zeroCells, Value.cells]; omega
      · rw [Array.toList_append, e1, List.take_append_of_le_length (by simp), List.take_of_length_le (by simp)]
    unfold Oper.wp execOp
    simp only [resolve, invoke, builtin, Sem.run_bind, Sem.run_pure, Result.andThen_ok, List.map_toArray, List.map_cons, List.map_nil, hf.o1 hx, hf.o1 hy, hmi, hr]
    refine hK _ _ _ _ (hf.put1 (Nat.le_of_ble_eq_true hn) _) ?_ (hs.more (Gives.tail _ _)) (h (some ⟨w.heap.size, 0, none⟩) (grownCap w m 0 e))
    refine ⟨⟨hm.keep.os, hm.keep.tape, hm.keep.output, Nat.le_trans hm.keep.size (by simp), fun k hk hd => (heap_alloc_old w.drew _ (Nat.lt_of_lt_of_le hk hm.keep.size)).trans (hm.keep.block k hk hd)⟩, fun c hc => ?_, fun c hc hcm b hb => ?_, List.Pairwise.cons (fun c hc _ b hb hb' => ?_) hm.sep⟩
    · rcases List.mem_cons.1 hc with rfl | hc
      · exact hown
      · exact Ck.stay (w := w) (by simp) (fun b hb => heap_alloc_old w.drew _ (Ck.lt (hm.all c hc) hb)) (hm.all c hc)
    · rcases List.mem_cons.1 hc with rfl | hc
      · cases hb; exact .inr hm.keep.size
      · exact hm.out c hc hcm b hb
    · cases hb
      exact Nat.lt_irrefl _ (Ck.lt (hm.all c hc) hb')
/-- an own row that is cut behind -/
theorem Gives.owncut {L : List Ck} (k : Nat) {A : Option Addr} {m c : Nat} {T : TypeId} {sz : Nat} {xs : List Value} (q : Nat) (hk : L[k]? = some (.own A m c T sz xs)) (hq : q ≤ m) : Gives L (L.set k (.own A q c T sz (xs.take (q * sz)))) := fun M w h => by
  refine h.turn (c' := .own A q c T sz (xs.take (q * sz))) hk rfl (fun g hg => .inl hg) rfl rfl rfl (Nat.le_refl _) (fun _ _ _ => rfl) ?_
  have h2 := Nat.mul_le_mul_right sz hq
  obtain ⟨hl, ho⟩ : w.ownsRow 0 T sz (.slice A m c) m xs := h.get hk
  refine ⟨by rw [List.length_take, hl]; omega, ?_⟩
  rcases ho with ⟨hv, hm0⟩ | ⟨g, cap, cur, hv, hb, hg, hmc, hcm, hcs, htake⟩
  · left
    cases hv
    exact ⟨by simp; omega, by omega⟩
  · right
    cases hv
    refine ⟨g, _, cur, rfl, hb, hg, by omega, hcm, hcs, ?_⟩
    rw [← htake, List.take_take, Nat.min_eq_left h2]
/-- no elements -/
theorem lx_row0 {E : Env P} {T : TypeId} {dst : Option Tmp} {ty : TypeId} {pos : String} {after : Array Edge} {guard : Option (Nat × Bool)} {d : Nat} {e : TypeId} {j : TyI} (hl : s.loud i = true) {p : Option Bool} (hg : gOf ops t ⟨dst, .buildSlice T 0 #[], ty, pos, after, guard⟩ = some p) (hp : cb p = true) (hd : dst = some d) (hn : Nat.blt d n = true)
    (hT : tyOf E.f T = .slice e) (he : E.f e = some j)
    (h : ∀ b, LX P n M ops s (i + 1) rest Q ((d, none, .slice (some ⟨b, 0, none⟩) 0 0) :: t) (.blk b [] e :: L)) : LX P n M ops s i (⟨dst, .buildSlice T 0 #[], ty, pos, after, guard⟩ :: rest) Q t L :=
  lx_new hl hg hp hd hn (fun b => .slice (some ⟨b, 0, none⟩) 0 0) (fun a w hf => by
    have hs := E.size he w
    have hu := run_underlying (P := P) (tyOf_slice hT) w
    unfold execOp
    refine run_v2 ?_
    have e0 : (Array.range 0).map (fun _ => (default : Value)) = #[] := by apply Array.ext <;> simp
    simp [Instr.buildSlice, hu, hs, Instr.fill, newRow, e0]) h
/-- texts compared -/
theorem sb_beq (l m : List B8) : ((sb l).toList == (sb m).toList) = (l == m) := by
  rw [sb_toList, sb_toList, Bool.eq_iff_iff]
  simp only [beq_iff_eq]
  exact List.map_inj_right (fun a b hab => by cases hab; rfl)
theorem yl_strop {op : BinOp} {p c1 c2 : Option Bool} {dst : Option Tmp} {T T' : TypeId} {x y : Operand} {ty : TypeId} {pos : String} {after : Array Edge} {guard : Option (Nat × Bool)} (l m : List B8) {v : Value}
    (hx : ov t x = some (c1, .string (sb l))) (hy : ov t y = some (c2, .string (sb m))) (h1 : cb p = true → cb c1 = true) (h2 : cb p = true → cb c2 = true) (hv : evStr op (sb l) (sb m) = some v) :
    Yl P n t L p ⟨dst, .binOp op T x y T', ty, pos, after, guard⟩ v := fun hp M a' w hf _ => by
  unfold execOp
  refine run_v ?_
  rw [hf.ov hx (h1 hp), hf.ov hy (h2 hp)]
  cases op <;> simp [evStr] at hv <;> subst hv <;> simp [eqGuard, binOp, Op.stringOp]
theorem yl_seq {p c1 c2 : Option Bool} {dst : Option Tmp} {T T' : TypeId} {x y : Operand} {ty : TypeId} {pos : String} {after : Array Edge} {guard : Option (Nat × Bool)} (l m : List B8)
    (hx : ov t x = some (c1, .string (sb l))) (hy : ov t y = some (c2, .string (sb m))) (h1 : cb p = true → cb c1 = true) (h2 : cb p = true → cb c2 = true) :
    Yl P n t L p ⟨dst, .binOp .eql T x y T', ty, pos, after, guard⟩ (.bool (l == m)) := yl_strop l m hx hy h1 h2 (by rw [evStr, sb_beq])
theorem yl_sne {p c1 c2 : Option Bool} {dst : Option Tmp} {T T' : TypeId} {x y : Operand} {ty : TypeId} {pos : String} {after : Array Edge} {guard : Option (Nat × Bool)} (l m : List B8)
    (hx : ov t x = some (c1, .string (sb l))) (hy : ov t y = some (c2, .string (sb m))) (h1 : cb p = true → cb c1 = true) (h2 : cb p = true → cb c2 = true) :
    Yl P n t L p ⟨dst, .binOp .neq T x y T', ty, pos, after, guard⟩ (.bool (l != m)) := yl_strop l m hx hy h1 h2 (by rw [evStr, sb_beq]; rfl)
end
end Go.Proofs.YtmochicneilhhaaGreat
namespace Go.Proofs.YtmochicneilhhaaGreat
open Go.RowKit
/-- a slice of bytes: its value, and what it holds -/
structure Rw where
  A : Option Addr
  n : Nat
  c : Nat
  l : List B8
def Rw.val (r : Rw) : Value := .slice r.A r.n r.c
def rwv (rs : List Rw) : List Value := rs.map Rw.val
def Rw.ok (w : World) (r : Rw) : Prop := Row w w.heap.size 1 r.A r.n (bvs r.l) ∧ r.n ≤ r.c ∧ r.c ≤ 9223372036854775807
def rowsP (A : Option Addr) (n : Nat) (rs : List Rw) (w : World) : Prop := Row w w.heap.size 1 A n (rwv rs) ∧ ∀ r ∈ rs, r.ok w
def rowsOn (A : Option Addr) (n : Nat) (rs : List Rw) (g : Nat) : Prop := (n ≠ 0 ∧ A.map (·.block) = some g) ∨ ∃ r ∈ rs, r.n ≠ 0 ∧ r.A.map (·.block) = some g
theorem rows_stable (A : Option Addr) (n : Nat) (rs : List Rw) : Stable (rowsOn A n rs) (rowsP A n rs) := fun w h => by
  refine ⟨fun b hb => ?_, fun w' hsz hk => ⟨Row.stay h.1 hsz fun b hb => hk b (.inl hb), fun r hr => ?_⟩⟩
  · rcases hb with hb | ⟨r, hr, hb⟩
    · exact Row.lt_of h.1 hb.1 hb.2
    · exact Row.lt_of (h.2 r hr).1 hb.1 hb.2
  · obtain ⟨h1, h2⟩ := h.2 r hr
    exact ⟨Row.stay h1 hsz fun b hb => hk b (.inr ⟨r, hr, hb⟩), h2⟩
abbrev Ck.rows (A : Option Addr) (n : Nat) (rs : List Rw) : Ck := .deep (rowsOn A n rs) (rowsP A n rs) (rows_stable A n rs)
section
variable {L : List Ck}
theorem rwv_len (rs : List Rw) : (rwv rs).length = rs.length := by simp [rwv]
theorem rwv_get {rs : List Rw} {i : Nat} {r : Rw} (h : rs[i]? = some r) : (rwv rs)[mulI i 1]? = some (.slice r.A r.n r.c) := by simp [rwv, mulI, h, Rw.val]
/-- the row of slices itself -/
theorem Gives.rows (k : Nat) {A : Option Addr} {n : Nat} {rs : List Rw} (hk : L[k]? = some (.rows A n rs)) : Gives L (.ro A n 1 (rwv rs) :: L) := Gives.add k hk rfl rfl fun _ h => ⟨h.1, fun _ hb => .inl hb⟩
/-- one of the slices -/
theorem Gives.rowsAt (k : Nat) {A : Option Addr} {n i : Nat} {rs : List Rw} {r : Rw} (hk : L[k]? = some (.rows A n rs)) (hi : rs[i]? = some r) : Gives L (.ro r.A r.n 1 (bvs r.l) :: L) :=
  Gives.add k hk rfl rfl fun _ h => ⟨(h.2 r (List.mem_of_getElem? hi)).1, fun _ hb => .inr ⟨r, List.mem_of_getElem? hi, hb⟩⟩
/-- what is plain of a slice of bytes -/
theorem rows_ok {M : Me} {w : World} (k : Nat) {A : Option Addr} {n i : Nat} {rs : List Rw} {r : Rw} (hk : L[k]? = some (.rows A n rs)) (hi : rs[i]? = some r) (hm : Mem M L w) : r.l.length = r.n ∧ r.n ≤ r.c ∧ r.c ≤ 9223372036854775807 := by
  have h : rowsP A n rs w := hm.get hk
  obtain ⟨h1, h2, h3⟩ := h.2 r (List.mem_of_getElem? hi)
  have := h1.1
  rw [bvs_len] at this
  omega
theorem rows_in {w : World} {Lin : List Ck} {A : Option Addr} {m : Nat} {rs : List Rw} (h : rowsP A m rs w) (hin : Mem ⟨w, []⟩ Lin w) (hro : Lin.all (fun c => !c.mut_) = true) : Mem ⟨w, []⟩ (.rows A m rs :: Lin) w := by
  refine ⟨hin.keep, fun c hc => ?_, fun c hc hm => ?_, List.Pairwise.cons (fun c hc hm => ?_) hin.sep⟩
  · rcases List.mem_cons.1 hc with rfl | hc
    · exact h
    · exact hin.all c hc
  · rcases List.mem_cons.1 hc with rfl | hc
    · cases hm
    · exact hin.out c hc hm
  · have := List.all_eq_true.1 hro c hc
    rcases hm with hm | hm
    · cases hm
    · rw [hm] at this; cases this
end
end Go.Proofs.YtmochicneilhhaaGreat
namespace Go.Proofs.YtmochicneilhhaaGreat
open Go.RowKit
/-- the first elements of a row -/
theorem Row.pre {w : World} {B sz m k : Nat} {A : Option Addr} {xs : List Value} (h : Row w B sz A m xs) (h2 : k ≤ m) : Row w B sz A k (xs.take (k * sz)) := by
  have h4 := Nat.mul_le_mul_right sz h2
  refine ⟨by rw [List.length_take, h.1]; omega, fun hn => ?_⟩
  obtain ⟨b, off, rfl, hb, hcell⟩ := h.2 (by omega)
  refine ⟨b, off, rfl, hb, fun j u hu => ?_⟩
  rw [List.getElem?_take] at hu
  split at hu
  · exact hcell _ u hu
  · cases hu
theorem Row.preb {w : World} {B m k : Nat} {A : Option Addr} {l : List B8} (h : Row w B 1 A m (bvs l)) (h2 : k ≤ m) : Row w B 1 A k (bvs (l.take k)) := by
  have := h.pre h2
  rwa [Nat.mul_one, show (bvs l).take k = bvs (l.take k) by simp [bvs, List.map_take]] at this
theorem Row.cutb {w : World} {B m c lo hi : Nat} {A : Option Addr} {l : List B8} (h : Row w B 1 A m (bvs l)) (h1 : lo ≤ hi) (h2 : hi ≤ m) (hc : m ≤ c) : Row w B 1 (cutA A c lo 1) (hi - lo) (bvs ((l.drop lo).take (hi - lo))) := by
  have := h.cut h1 h2 hc
  rwa [cutL_bvs] at this
theorem Row.sufb {w : World} {B m c lo : Nat} {A : Option Addr} {l : List B8} (h : Row w B 1 A m (bvs l)) (h1 : lo ≤ m) (hc : m ≤ c) : Row w B 1 (cutA A c lo 1) (m - lo) (bvs (l.drop lo)) := by
  have := h.cutb h1 (Nat.le_refl _) hc
  have hl := h.1
  rw [bvs_len] at hl
  rwa [List.take_of_length_le (by rw [List.length_drop]; omega)] at this
theorem Row.nil {w : World} {B sz : Nat} {A : Option Addr} : Row w B sz A 0 [] := ⟨by simp, fun h => absurd h (Nat.lt_irrefl 0)⟩
/-- a block of slices, as rows -/
theorem rows_blk {M : Me} {L : List Ck} {w : World} {b : Nat} {T : TypeId} {cs : List Value} (k : Nat) (rs : List Rw) (hm : Mem M L w) (hk : L[k]? = some (.blk b cs T)) (hcs : cs = rwv rs) (hr : ∀ r ∈ rs, r.ok w) : Mem ⟨w, []⟩ [.rows (some ⟨b, 0, none⟩) rs.length rs] w :=
  rows_in ⟨by rw [← hcs]; exact row_blk k hk (by rw [hcs, rwv_len, Nat.mul_one]) hm, hr⟩ (in_nil hm) rfl
theorem own_ro {M : Me} {L : List Ck} {w : World} {A : Option Addr} {m c : Nat} {T : TypeId} {sz : Nat} {xs : List Value} (k : Nat) (hm : Mem M L w) (hk : L[k]? = some (.own A m c T sz xs)) : Mem ⟨w, []⟩ [.ro A m sz xs] w := in_ro (row_own k hk hm) (in_nil hm) rfl
theorem Gives.cutb {L : List Ck} (k : Nat) {A : Option Addr} {m c lo : Nat} {l : List B8} (hk : L[k]? = some (.ro A m 1 (bvs l))) (h2 : lo ≤ m) (hc : m ≤ c) : Gives L (.ro (cutA A c lo 1) (m - lo) 1 (bvs (l.drop lo)) :: L) :=
  Gives.add k hk rfl rfl fun w hr => ⟨Row.sufb hr h2 hc, fun b hb => by
    obtain ⟨hq, hb⟩ := hb
    obtain ⟨b0, off, rfl, _, _⟩ := hr.2 (by omega)
    rw [cutA] at hb
    split at hb
    · exact ⟨by omega, hb⟩
    · rw [Option.map_some, add_at] at hb
      exact ⟨by omega, hb⟩⟩
/-- what a call leaves, otherwise told -/
theorem Fn.gives {P : Program} {f : FuncId} {args : List Value} {Lin : List Ck} {D : List Nat} {post post' : Value → List Ck → Prop} (h : Fn P f args Lin D post) (hp : ∀ v Lo, post v Lo → ∃ Lo', post' v Lo' ∧ Gives Lo Lo' ∧ Lo'.all Ck.mut_ = true) : Fn P f args Lin D post' :=
  ⟨h.1, fun w hm => (h.2 w hm).mono fun _ _ ⟨v, Lo, he, hq, hm', _⟩ => by
    obtain ⟨Lo', h1, h2, h3⟩ := hp v Lo hq
    exact ⟨v, Lo', he, h1, h2 _ _ hm', h3⟩⟩
end Go.Proofs.YtmochicneilhhaaGreat
namespace Go.Proofs.YtmochicneilhhaaGreat.pk
open Go.RowKit
/-- a number's last k bytes, the highest first -/
def be : Nat → BitVec 64 → List B8
  | 0, _ => []
  | k + 1, x => (x >>> (8 * k)).setWidth 8 :: be k x
theorem be_len : ∀ (k : Nat) (x : BitVec 64), (be k x).length = k
  | 0, _ => rfl
  | k + 1, x => by rw [be, List.length_cons, be_len k x]
theorem be_get : ∀ {k i : Nat} (x : BitVec 64), i < k → (be k x)[i]? = some ((x >>> (8 * (k - 1 - i))).setWidth 8)
  | 0, _, _, h => absurd h (Nat.not_lt_zero _)
  | k + 1, 0, x, _ => by rw [be]; simp
  | k + 1, i + 1, x, h => by
    rw [be, List.getElem?_cons_succ, be_get x (by omega)]
    congr 4
    omega
/-- bytes, as a number -/
def de (n : BitVec 64) (l : List B8) : BitVec 64 := l.foldl (fun n c => n <<< 8 ||| c.setWidth 64) n
theorem de_take {l : List B8} {i : Nat} {c : B8} (n : BitVec 64) (h : l[i]? = some c) : de n (l.take (i + 1)) = (de n (l.take i)) <<< 8 ||| c.setWidth 64 := by
  rw [List.take_add_one, h, de, List.foldl_append]
  rfl
theorem shl_mul (n : BitVec 64) : n <<< 8 = n * 256#64 := by
  apply BitVec.eq_of_toNat_eq
  rw [BitVec.toNat_shiftLeft, BitVec.toNat_mul, Nat.shiftLeft_eq]
  rfl
theorem add_or (n : BitVec 64) (c : B8) : n * 256#64 + c.setWidth 64 = n <<< 8 ||| c.setWidth 64 := by
  rw [← shl_mul, BitVec.add_eq_or_of_and_eq_zero]
  apply BitVec.eq_of_getLsbD_eq
  intro i hi
  simp only [BitVec.getLsbD_and, BitVec.getLsbD_shiftLeft, BitVec.getLsbD_setWidth, BitVec.getLsbD_zero]
  by_cases h : i < 8
  · simp [h]
  · rw [BitVec.getLsbD_of_ge c i (by omega)]
    simp
theorem quo256 (x : BitVec 64) (j : Nat) : (x >>> (8 * j)) / 256#64 = x >>> (8 * (j + 1)) := by
  apply BitVec.eq_of_toNat_eq
  rw [BitVec.toNat_udiv, BitVec.toNat_ushiftRight, BitVec.toNat_ushiftRight, Nat.shiftRight_eq_div_pow, Nat.shiftRight_eq_div_pow, Nat.mul_add, Nat.pow_add, ← Nat.div_div_eq_div_mul]
  rfl
theorem rem256 (x : BitVec 64) : (x % 256#64).setWidth 8 = x.setWidth 8 := by
  apply BitVec.eq_of_toNat_eq
  rw [BitVec.toNat_setWidth, BitVec.toNat_setWidth, BitVec.toNat_umod]
  show x.toNat % 256 % 256 = x.toNat % 256
  omega
theorem bvs_zero (k : Nat) : List.replicate k (Value.int .u8 0) = bvs (List.replicate k 0#8) := by simp [bvs, bv]
theorem setL_at {l : List B8} {i : Nat} (y : B8) (h : i < l.length) : setL (bvs l) (mulI i 1) [bv y] = bvs (l.set i y) := by
  have : ∀ (cs : List Value) (i : Nat) (v : Value), i < cs.length → setL cs i [v] = cs.set i v := by
    intro cs
    induction cs with
    | nil => intro i v h; exact absurd h (Nat.not_lt_zero _)
    | cons c cs ih =>
      intro i v h
      cases i with
      | zero => cases cs <;> simp [setL]
      | succ i => rw [setL, ih i v (by simpa using h), List.set_cons_succ]
  rw [mulI, this _ _ _ (by rw [bvs_len]; exact h), bvs, bvs, List.map_set]
/-- filled from the beginning -/
theorem fill_step {l : List B8} {i k : Nat} {y : B8} (hl : l.length = k) (h : l[i]? = some y) : setL (bvs (l.take i ++ List.replicate (k - i) 0#8)) (mulI i 1) [bv y] = bvs (l.take (i + 1) ++ List.replicate (k - (i + 1)) 0#8) := by
  have hi : i < l.length := (List.getElem?_eq_some_iff.1 h).1
  rw [setL_at _ (by simp; omega), List.set_append, if_neg (by simp; omega)]
  congr 1
  rw [List.take_add_one, h, List.length_take, Nat.min_eq_left (by omega), Nat.sub_self, show k - i = k - (i + 1) + 1 by omega, List.replicate_succ, List.set_cons_zero]
  simp
/-- filled from the end -/
theorem fill_back {l : List B8} {j k : Nat} {y : B8} (hl : l.length = k) (hj : j < k) (h : l[k - 1 - j]? = some y) : setL (bvs (List.replicate (k - j) 0#8 ++ l.drop (k - j))) (mulI (k - 1 - j) 1) [bv y] = bvs (List.replicate (k - (j + 1)) 0#8 ++ l.drop (k - (j + 1))) := by
  have hd : l.drop (k - (j + 1)) = y :: l.drop (k - j) := by
    have hlt : k - 1 - j < l.length := (List.getElem?_eq_some_iff.1 h).1
    have hy : l[k - 1 - j] = y := (List.getElem?_eq_some_iff.1 h).2
    rw [show k - (j + 1) = k - 1 - j by omega, List.drop_eq_getElem_cons hlt, hy, show k - 1 - j + 1 = k - j by omega]
  rw [setL_at _ (by simp; omega), List.set_append, if_pos (by simp; omega), hd]
  congr 1
  have e : List.replicate (k - j) 0#8 = List.replicate (k - 1 - j) 0#8 ++ [0#8] := by rw [show k - j = k - 1 - j + 1 by omega, List.replicate_succ']
  rw [e, List.set_append, if_neg (by simp), List.length_replicate, Nat.sub_self, List.set_cons_zero, List.append_assoc, show k - (j + 1) = k - 1 - j by omega]
  rfl
/-- all rows, one behind the other -/
def cat (rs : List Rw) : List B8 := rs.flatMap (·.l)
theorem cat_take {rs : List Rw} {i : Nat} {r : Rw} (h : rs[i]? = some r) : cat (rs.take (i + 1)) = cat (rs.take i) ++ r.l := by
  rw [List.take_add_one, h, cat, List.flatMap_append]
  simp [cat]
theorem cat_le (rs : List Rw) (i : Nat) : (cat (rs.take i)).length ≤ (cat rs).length := by
  have : cat rs = cat (rs.take i) ++ cat (rs.drop i) := by rw [cat, cat, cat, ← List.flatMap_append, List.take_append_drop]
  rw [this, List.length_append]
  omega
/-- bytes to a number, by natural numbers -/
def dn (n : Nat) (l : List B8) : Nat := l.foldl (fun n c => n * 256 + c.toNat) n
theorem de_dn (l : List B8) : ∀ n : BitVec 64, ∀ m : Nat, n.toNat = m % 2 ^ 64 → (de n l).toNat = dn m l % 2 ^ 64 := by
  induction l with
  | nil => intro n m h; exact h
  | cons c l ih =>
    intro n m h
    refine ih _ _ ?_
    show (n <<< 8 ||| c.setWidth 64).toNat = (m * 256 + c.toNat) % 2 ^ 64
    rw [← add_or, BitVec.toNat_add, BitVec.toNat_mul, BitVec.toNat_setWidth, h]
    have := c.isLt
    show (m % 2 ^ 64 * 256 % 2 ^ 64 + c.toNat % 2 ^ 64) % 2 ^ 64 = _
    omega
theorem dn_be : ∀ (k n : Nat) (x : BitVec 64), dn n (be k x) = n * 256 ^ k + x.toNat % 256 ^ k
  | 0, n, x => by simp [be, dn, Nat.mod_one]
  | k + 1, n, x => by
    show dn (n * 256 + ((x >>> (8 * k)).setWidth 8).toNat) (be k x) = _
    rw [dn_be k, BitVec.toNat_setWidth, BitVec.toNat_ushiftRight, Nat.shiftRight_eq_div_pow]
    have e : (2 : Nat) ^ (8 * k) = 256 ^ k := by rw [Nat.pow_mul]
    have e2 : (256 : Nat) ^ (k + 1) = 256 ^ k * 256 := Nat.pow_succ ..
    rw [e, e2]
    generalize hp : (256 : Nat) ^ k = p
    have hpos : 0 < p := by rw [← hp]; exact Nat.pow_pos (by decide)
    have h1 : x.toNat % (p * 256) = x.toNat % p + p * (x.toNat / p % 256) := Nat.mod_mul
    rw [h1, Nat.add_mul, Nat.mul_assoc, Nat.mul_comm 256 p, Nat.mul_comm (x.toNat / p % 2 ^ 8) p]
    show n * (p * 256) + p * (x.toNat / p % 256) + x.toNat % p = _
    omega
/-- what is packed is taken as it was -/
theorem de_be (k : Nat) (x : BitVec 64) (hk : k ≤ 8) (hx : x.toNat < 256 ^ k) : de 0#64 (be k x) = x := by
  apply BitVec.eq_of_toNat_eq
  rw [de_dn (be k x) 0#64 0 rfl, dn_be, Nat.zero_mul, Nat.zero_add, Nat.mod_eq_of_lt hx, Nat.mod_eq_of_lt x.isLt]
end Go.Proofs.YtmochicneilhhaaGreat.pk
