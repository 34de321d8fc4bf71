/- More rules: bytes and texts, as lists of 8 digits each. More rules: parts of a text; scopes and labels that nothing jumps to. From the reading of arguments to the rows that the walks ask for. An argument that is a slice of structs, as a row of cells. What the reading of an argument tells: its cells, by the type's shape. More rules: a text behind bytes, zeros, empty rows, own rows cut. -/
import Derived.Test.YtmochicneilhhaaGreatPBv
import Derived.Test.YtmochicneilhhaaGreatPMem
import Derived.Test.YtmochicneilhhaaGreatPSf
import Derived.Laws.BytesString
import Derived.Lib.ConvBytes
import Derived.Scope
import Derived.Below
import Derived.ChangeOld
import Derived.ShutString
import Derived.Carry
import Derived.Lib.SmallJoins
import Derived.Deep.Slices
import Derived.Deep.Fields
import Derived.ChangeSame
import Derived.Lib.AppendStr
import Derived.Lib.AppendZeros
namespace Go.Proofs.YtmochicneilhhaaGreat
open Go.RowKit
abbrev B8 := BitVec 8
def bv (b : B8) : Value := .int .u8 b.toNat
def bvs (l : List B8) : List Value := l.map bv
/-- a text's bytes -/
def sb (l : List B8) : ByteArray := ⟨(l.map UInt8.ofBitVec).toArray⟩
theorem bvs_len (l : List B8) : (bvs l).length = l.length := by simp [bvs]
theorem bvs_get {l : List B8} {i : Nat} {b : B8} (h : l[i]? = some b) : (bvs l)[i]? = some (bv b) := by simp [bvs, h]
theorem bvs_append (l m : List B8) : bvs (l ++ m) = bvs l ++ bvs m := by simp [bvs]
theorem bvs_one {l : List B8} : ∀ u ∈ bvs l, u.oneCell' = true := by
  intro u hu
  obtain ⟨b, _, rfl⟩ := List.mem_map.1 hu
  rfl
theorem cutL_bvs (l : List B8) (lo hi : Nat) : cutL (bvs l) lo hi 1 = bvs ((l.drop lo).take (hi - lo)) := by
  simp [cutL, bvs, List.map_take, List.map_drop]
theorem sb_size (l : List B8) : (sb l).size = l.length := by
  show (l.map UInt8.ofBitVec).toArray.size = l.length
  simp
theorem sb_list (l : List B8) : (sb l).data.toList = l.map UInt8.ofBitVec := by simp [sb]
theorem toList_loop (s : ByteArray) : s.toList = s.data.toList := by
  have h : ∀ (k i : Nat) (r : List UInt8), s.size - i = k → ByteArray.toList.loop s i r = r.reverse ++ s.data.toList.drop i := by
    intro k
    induction k with
    | zero =>
      intro i r hk
      unfold ByteArray.toList.loop
      rw [if_neg (by omega), List.drop_eq_nil_of_le (by simp; omega), List.append_nil]
    | succ k ih =>
      intro i r hk
      unfold ByteArray.toList.loop
      have hi : i < s.size := by omega
      rw [if_pos hi, ih _ _ (by omega)]
      have hi' : i < s.data.toList.length := by simpa using hi
      have hg : s.get! i = s.data.toList[i] := by
        show s.data[i]! = _
        rw [getElem!_pos s.data i (by simpa using hi)]
        simp
      rw [List.drop_eq_getElem_cons hi', hg]
      simp
  have := h s.size 0 [] (by simp)
  simpa [ByteArray.toList] using this
theorem sb_toList (l : List B8) : (sb l).toList = l.map UInt8.ofBitVec := by rw [toList_loop, sb_list]
theorem sb_empty : ByteArray.empty = sb [] := rfl
theorem sb_append (l m : List B8) : sb l ++ sb m = sb (l ++ m) := by
  apply ByteArray.ext
  rw [ByteArray.data_append]
  simp [sb]
theorem sb_get {l : List B8} {i : Nat} {b : B8} (h : l[i]? = some b) : (sb l)[i]? = some (UInt8.ofBitVec b) := by
  have hi : i < l.length := (List.getElem?_eq_some_iff.1 h).1
  have hb := (List.getElem?_eq_some_iff.1 h).2
  rw [getElem?_pos _ _ (by rw [sb_size]; exact hi)]
  show some ((sb l).data[i]'_) = _
  simp [sb, hb]
theorem push_all (ns : List B8) (s : ByteArray) : (ns.map (fun b => (b.toNat : Int))).foldl (fun r n => r.push (UInt8.ofNat n.toNat)) s = s ++ sb ns := by
  induction ns generalizing s with
  | nil =>
    apply ByteArray.ext
    simp [sb]
  | cons b ns ih =>
    rw [List.map_cons, List.foldl_cons, ih]
    apply ByteArray.ext
    rw [ByteArray.data_append, ByteArray.data_append, ByteArray.data_push]
    have : UInt8.ofNat (b.toNat : Int).toNat = UInt8.ofBitVec b := by
      apply UInt8.toBitVec_inj.1
      simp
    rw [this]
    simp [sb]
section
variable {P : Program} {n : Nat} {M : Me} {Q : Post} {t : Fr} {L : List Ck} {ops : Array Oper} {s : Way} {i : Nat} {rest : List Oper}
/-- a text's length -/
theorem yl_slen {E : Env P} {p c : Option Bool} {dst : Option Tmp} {T : TypeId} {x : Operand} {ty : TypeId} {pos : String} {after : Array Edge} {guard : Option (Nat × Bool)} {l : List B8}
    (hx : ov t x = some (c, .string (sb l))) (hT : tyOf E.f T = .string) (h1 : cb p = true → cb c = true) : Yl P n t L p ⟨dst, .call ⟨.builtin .len, #[x], #[T]⟩, ty, pos, after, guard⟩ (.int .i64 l.length) := fun hp M a w hf hm => by
  have hu := run_underlying (P := P) (tyOf_string hT) w
  unfold execOp
  simp [resolve, invoke, builtin, hf.ov hx (h1 hp), Builtin.len_, hu, goInt, sb_size]
/-- a byte of a text -/
theorem yl_sat {E : Env P} {p c c2 : Option Bool} {dst : Option Tmp} {T : TypeId} {x y : Operand} {ty : TypeId} {pos : String} {after : Array Edge} {guard : Option (Nat × Bool)} {l : List B8} {κ : IntKind} {iv : Int} {b : B8}
    (hx : ov t x = some (c, .string (sb l))) (hy : ov t y = some (c2, .int κ iv)) (hT : tyOf E.f T = .string) (h1 : cb p = true → cb c = true) (h2 : cb p = true → cb c2 = true) (hi : cb p = true → 0 ≤ iv ∧ l[iv.toNat]? = some b) :
    Yl P n t L p ⟨dst, .index T x y, ty, pos, after, guard⟩ (bv b) := fun hp M a w hf hm => by
  have hu := run_underlying (P := P) (tyOf_string hT) w
  obtain ⟨h3, h4⟩ := hi hp
  unfold execOp
  refine run_v ?_
  simp [hf.ov hx (h1 hp), hf.ov hy (h2 hp), Instr.index, asIntOf, hu, h3, sb_get h4, bv]
/-- a slice of bytes as a text -/
theorem yl_text {E : Env P} {p c1 : Option Bool} {dst : Option Tmp} {S T : TypeId} {x : Operand} {ty : TypeId} {pos : String} {after : Array Edge} {guard : Option (Nat × Bool)} {A : Option Addr} {m c : Nat} {e : TypeId} {l : List B8}
    (hx : ov t x = some (c1, .slice A m c)) (hS : tyOf E.f S = .slice e) (he : tyOf E.f e = .int .u8) (hT : tyOf E.f T = .string) (hr : ∀ M w, Mem M L w → Row w w.heap.size 1 A m (bvs l)) (h1 : cb p = true → cb c1 = true) :
    Yl P n t L p ⟨dst, .convert S T x, ty, pos, after, guard⟩ (.string (sb l)) := fun hp M a w hf hm => by
  have u1 := run_underlying (P := P) (tyOf_slice hS) w
  have u2 := run_underlying (P := P) (tyOf_string hT) w
  have u3 := run_underlying (P := P) (tyOf_int he) w
  have hrow := hr M w hm
  have hl : l.length = m := by have := hrow.1; rw [bvs_len] at this; omega
  unfold execOp
  refine run_v ?_
  rw [hf.ov hx (h1 hp)]
  unfold convert
  simp only [Sem.run_bind, u1, u2, u3, Result.andThen_ok]
  rcases Nat.eq_zero_or_pos m with h0 | h0
  · subst h0
    have : l = [] := List.eq_nil_of_length_eq_zero hl
    subst this
    cases A with
    | none => rfl
    | some a0 =>
      have := run_bytesToString (P := P) w a0 0 c [] (by simp [loadCells, loadCellsFrom])
      simpa [sb_empty] using this
  · obtain ⟨b, off, rfl, _, hc⟩ := hrow.2 h0
    have hcells := run_loadCells_list (P := P) w ⟨b, off, none⟩ (bvs l) (fun q u hu => by
      have := hc q u hu
      unfold Addr.add
      split
      · rename_i h0; subst h0; simpa using this
      · exact this)
    rw [bvs_len, hl] at hcells
    have e : bvs l = (l.map (fun b => (b.toNat : Int))).map (Value.int .u8) := by simp [bvs, bv]
    rw [e] at hcells
    have := run_bytesToString (P := P) w ⟨b, off, none⟩ m c _ hcells
    rw [push_all] at this
    have h5 : ByteArray.empty ++ sb l = sb l := by rw [sb_empty, sb_append, List.nil_append]
    rw [h5] at this
    exact this
end
end Go.Proofs.YtmochicneilhhaaGreat
namespace Go.Proofs.YtmochicneilhhaaGreat
open Go.RowKit
section
variable {P : Program} {n : Nat} {t : Fr} {L : List Ck}
theorem cx_scope {M : Me} {Q : Post} {c : Code} (h : CX P n M c Q t L) : CX P n M (.scope c) Q t L := fun a w hf hm => by
  refine wp_scope_straight (wp_mono (h a w hf hm) fun e a' w' hq => ?_)
  cases e <;> first
    | exact hq
    | exact hq.elim
theorem cx_label {M : Me} {Q : Post} {l : Nat} (h : Q .normal t L) : CX P n M (.label l) Q t L := fun _ _ hf hm => wp_label ⟨t, L, hf, hm, h⟩
end
end Go.Proofs.YtmochicneilhhaaGreat
namespace Go.Proofs.YtmochicneilhhaaGreat
open Go.ChangeShapes Go.WideShapes Go.ChangeAt Go.RowKit

end Go.Proofs.YtmochicneilhhaaGreat
namespace Go.Proofs.YtmochicneilhhaaGreat
open Go.ChangeShapes Go.WideShapes Go.ChangeAt Go.RowKit Go.Deep
section
variable {H : Type} {enc : TypeId × Value → H} {P : Program} {w : World} {base : Nat} {spare : Nat → Bool} {held : Bool}
end
end Go.Proofs.YtmochicneilhhaaGreat
namespace Go.Proofs.YtmochicneilhhaaGreat
open Go.ChangeShapes Go.WideShapes Go.ChangeAt Go.RowKit Go.Deep
/-- a slice: its value, and what it holds -/
structure Sl (α : Type) where
  A : Option Addr
  n : Nat
  c : Nat
  l : List α
section
variable {H : Type} {enc : TypeId × Value → H} {P : Program} {w : World} {base : Nat} {spare : Nat → Bool} {held : Bool}
/-- whatever is read as of type t is the cells of some x, of which ok holds -/
structure Reads (enc : TypeId × Value → H) (P : Program) (w : World) (base : Nat) (spare : Nat → Bool) (held : Bool) {α : Type} (t : TypeId) (sz : Nat) (cells : α → List Value) (ok : α → Prop) : Prop where
  size : P.cellsOf t = sz
  len : ∀ x, (cells x).length = sz
  read : ∀ n vs y, DataW.trod enc P w base spare held n t vs = some y → ∃ x, vs = cells x ∧ ok x
theorem Reads.map {α β : Type} {t : TypeId} {s : Nat} {c : α → List Value} {ok : α → Prop} (h : Reads enc P w base spare held t s c ok) (g : α → β) {c' : β → List Value} {ok' : β → Prop} (hc : ∀ x, c x = c' (g x)) (hok : ∀ x, ok x → ok' (g x)) (hl : ∀ y, (c' y).length = s) : Reads enc P w base spare held t s c' ok' :=
  ⟨h.size, hl, fun n vs y hy => by
    obtain ⟨x, hx, ho⟩ := h.read n vs y hy
    exact ⟨g x, hx.trans (hc x), hok x ho⟩⟩
/-- what is said of a slice -/
def Sl.ok {α : Type} (w : World) (s : Nat) (f : α → List Value) (ok : α → Prop) (r : Sl α) : Prop := Row w w.heap.size s r.A r.n (r.l.flatMap f) ∧ r.l.length = r.n ∧ r.n ≤ r.c ∧ r.c ≤ 9223372036854775807 ∧ ∀ x ∈ r.l, ok x
end
end Go.Proofs.YtmochicneilhhaaGreat
namespace Go.Proofs.YtmochicneilhhaaGreat
open Go.RowKit
theorem strCells_sb (l : List B8) : Lib.strCells (sb l) = bvs l := by
  rw [Lib.strCells, sb_list, bvs, List.map_map]
  rfl
section
variable {P : Program} {n : Nat} {M : Me} {Q : Post} {t : Fr} {L : List Ck} {ops : Array Oper} {s : Way} {i : Nat} {rest : List Oper}
/-- what an append leaves of the chunks -/
theorem Mem.grew {w w' : World} {k : Nat} {A A' : Option Addr} {q c m c' sz : Nat} {e : TypeId} {xs ys : List Value} (hm : Mem M L w) (hk : L[k]? = some (.own A q c e sz xs)) (hown : w'.ownsRow 0 e sz (.slice A' m c') m ys) (hgr : w.grownBy w' (Value.ownBlock (.slice A q c)))
    (hat : Value.ownBlock (.slice A' m c') = Value.ownBlock (.slice A q c) ∨ Value.ownBlock (.slice A' m c') = some w.heap.size ∨ A' = none) : Mem M (L.set k (.own A' m c' e sz ys)) w' := by
  refine hm.turn (c' := .own A' m c' e sz ys) hk rfl (fun b hb => ?_) hgr.os hgr.tape hgr.output hgr.size (fun b hb hne => ?_) hown
  · cases A' with
    | none => cases hb
    | some a' =>
      cases hb
      rcases hat with h5 | h5 | h5
      · left
        cases A with
        | none => cases h5
        | some a0 => exact h5.symm
      · right
        simp only [Value.ownBlock, Option.some.injEq] at h5
        show w.heap.size ≤ a'.block
        omega
      · cases h5
  · refine hgr.block b hb fun e5 => hne ?_
    cases A with
    | none => cases e5
    | some a0 => exact e5.symm
theorem run_appendS (w : World) (t u ty e : TypeId) (i : TypeInfo) (ht : P.underlying t = some (.slice e)) (hu : P.underlying u = some .string) (hi : P.info? e = some i) (hz : i.zero = some (.int .u8 0)) (hsize : i.size = 1) (hby : i.bytes = 1)
    (v : Value) (n : Nat) (xs : List Value) (hown : w.ownsRow 0 e 1 v n xs) (s : ByteArray) (h63 : n + s.size ≤ maxLen) (hbytes : n + s.size ≤ 140737488355328) :
    ∃ v' w', (Builtin.append_ #[t, u] ty #[v, .string s]).run P w = .ok v' w' ∧ Grew w 0 e 1 v (n + s.size) (xs ++ Lib.strCells s) v' w' := by
  obtain ⟨v', w', hr, ho', hgr, hnil⟩ := Lib.run_append_own_string (P := P) w 0 t u ty e i ht hu hi hz hsize hby v n xs hown s h63 hbytes (Nat.zero_le _)
  refine ⟨v', w', hr, ho', hgr, ?_⟩
  have hxl : xs.length = n := by simpa using hown.1
  have hsmall : n + s.size ≤ 9223372036854775807 := by simp only [maxLen] at h63; omega
  rcases hown.2 with ⟨rfl, rfl⟩ | ⟨g, cap, cur, rfl, hbg, hg, hnc, hcm, hcs, htake⟩
  · by_cases hm : s.size = 0
    · left
      rw [hnil.2 ⟨rfl, hm⟩]
    · right
      have h2 := run_append_nil_string (P := P) w t u ty e i (.int .u8 0) ht hu hi hz s (by omega) (by omega) (by rw [hby]; omega)
      rw [hr] at h2
      simp only [Result.ok.injEq] at h2
      rw [h2.1]
      rfl
  · by_cases hroom : n + s.size ≤ cap
    · left
      have h2 := Lib.run_append_room_string (P := P) w t u ty e i ht hu hi hsize g n cap cur hg s hroom (by omega)
      rw [hr] at h2
      simp only [Result.ok.injEq] at h2
      rw [h2.1]
      rfl
    · right
      have holds : ∀ j u, xs[j]? = some u → w.cell? ((⟨g, 0, none⟩ : Addr).add j) = some u := hown.cells (g := g) rfl
      have h2 := Lib.run_append_grow_string (P := P) w t u ty e i (.int .u8 0) ht hu hi hz ⟨g, 0, none⟩ n cap xs (by rw [hsize]; simpa using hxl) holds s (by omega) (by omega) (by rw [hby]; exact growslice_fits (by omega) (by omega))
      rw [hr] at h2
      simp only [Result.ok.injEq] at h2
      rw [h2.1]
      rfl
/-- a text behind an own row of bytes -/
theorem lx_appendS {E : Env P} {d : Nat} {x y : Operand} {T U : TypeId} {ty : TypeId} {pos : String} {after : Array Edge} {guard : Option (Nat × Bool)} {p : Option Bool} (k : Nat) {A : Option Addr} {q c : Nat} {e : TypeId} {j : TyI} {xs : List Value} {l : List B8}
    (hl : s.loud i = true) (hg : gOf ops t ⟨some d, .call ⟨.builtin .append, #[x, y], #[T, U]⟩, ty, pos, after, guard⟩ = some p) (hp : cb p = true) (hn : Nat.blt d n = true)
    (hx : o1 t x = some (.slice A q c)) (hy : o1 t y = some (.string (sb l))) (hT : tyOf E.f T = .slice e) (hU : tyOf E.f U = .string) (he : E.f e = some j) (hz : j.zero = some (.int .u8 0)) (hsz : j.size = 1) (hby : j.bytes = 1) (hk : L[k]? = some (.own A q c e 1 xs))
    (h63 : q + l.length ≤ 140737488355328) (hgs : ∀ A' c', s.gives L → s.gives (L.set k (.own A' (q + l.length) c' e 1 (xs ++ bvs l))))
    (h : ∀ A' c', LX P n M ops s (i + 1) rest Q ((d, none, .slice A' (q + l.length) c') :: t) (L.set k (.own A' (q + l.length) c' e 1 (xs ++ bvs l)))) : LX P n M ops s i (⟨some d, .call ⟨.builtin .append, #[x, y], #[T, U]⟩, ty, pos, after, guard⟩ :: rest) Q t L :=
  lx_loud hl hg hp fun a w hf hm hs K hK => by
    obtain ⟨g, hgi, g1, g2, g3⟩ := E.info he
    have hown : w.ownsRow 0 e 1 (.slice A q c) q xs := hm.get hk
    obtain ⟨v', w', hr, hgr⟩ := run_appendS (P := P) w T U ty e g (tyOf_slice hT) (tyOf_string hU) hgi (g3.trans hz) (g1.trans hsz) (g2.trans hby) (.slice A q c) q xs hown (sb l) (by rw [sb_size]; unfold maxLen; omega) (by rw [sb_size]; omega)
    rw [sb_size, strCells_sb] at hgr
    obtain ⟨A', c', rfl⟩ := own_shape hgr.own
    unfold Oper.wp execOp
    simp only [resolve, invoke, builtin, Sem.run_bind, Sem.run_pure, Result.andThen_ok, List.map_toArray, List.map_cons, List.map_nil, hf.o1 hx, hf.o1 hy, hr]
    refine hK _ _ _ _ (hf.put1 (Nat.le_of_ble_eq_true hn) _) (hm.grew hk hgr.own hgr.grown ?_) (hgs A' c' hs) (h A' c')
    rcases hgr.at_ with h5 | h5
    · exact .inl h5
    · exact .inr (.inl h5)
/-- so many zeros, new -/
theorem lx_zeros {E : Env P} {d : Nat} {x y : Operand} {T U : TypeId} {ty : TypeId} {pos : String} {after : Array Edge} {guard : Option (Nat × Bool)} {p : Option Bool} {e : TypeId} {j : TyI} {κ κ' : IntKind} {m : Nat} {mi : Int}
    (hl : s.loud i = true) (hg : gOf ops t ⟨some d, .call ⟨.builtin .append, #[x, y], #[T, U]⟩, ty, pos, after, guard⟩ = some p) (hp : cb p = true) (hn : Nat.blt d n = true)
    (hx : o1 t x = some (.slice none 0 0)) (hy : o1 t y = some (.int κ mi)) (hmi : mi = m) (hT : tyOf E.f T = .slice e) (hU : tyOf E.f U = .int κ') (he : E.f e = some j) (hz : j.zero = some (.int .u8 0)) (hsz : j.size = 1) (hby : j.bytes = 1)
    (h0 : 0 < m) (h63 : m ≤ 140737488355328)
    (h : ∀ A' c', LX P n M ops s (i + 1) rest Q ((d, none, .slice A' m c') :: t) (.own A' m c' e 1 (List.replicate m (.int .u8 0)) :: L)) : LX P n M ops s i (⟨some d, .call ⟨.builtin .append, #[x, y], #[T, U]⟩, ty, pos, after, guard⟩ :: rest) Q t L :=
  lx_loud hl hg hp fun a w hf hm hs K hK => by
    obtain ⟨g, hgi, g1, g2, g3⟩ := E.info he
    have hr := Lib.run_append_nil_zeros (P := P) w T U ty e g (.int .u8 0) κ κ' (tyOf_slice hT) (tyOf_int hU) hgi (g3.trans hz) m h0 (by rw [g1, hsz]; exact Nat.one_pos) (by omega) (by rw [g2, hby]; omega)
    have hge := grownCap_ge w m 0 e
    have hcm : grownCap w m 0 e ≤ maxLen := grownCap_le_maxLen w m 0 e (by unfold maxLen; omega)
    have e1 : (Builtin.zeroCells (Value.int IntKind.u8 0).cells m).toList = List.replicate m (.int .u8 0) := by
      apply List.ext_getElem
      · simp [Builtin.zeroCells, Value.cells]
      · intro i h1 h2
        simp [Builtin.zeroCells, Value.cells, Nat.mod_one]
    have hown : (w.drew.alloc (.cells (Builtin.zeroCells (Value.int IntKind.u8 0).cells m ++ Builtin.zeroCells (Value.int IntKind.u8 0).cells (grownCap w m 0 e - m)) e)).ownsRow 0 e 1 (.slice (some ⟨w.heap.size, 0, none⟩) m (grownCap w m 0 e)) m (List.replicate m (.int .u8 0)) := by
      refine ⟨by simp, .inr ⟨w.heap.size, _, _, rfl, Nat.zero_le _, heap_alloc_new w.drew _, hge, hcm, ?_, ?_⟩⟩
      · simp [size_zeroCells, Value.cells]; omega
      · rw [Array.toList_append, e1, List.take_append_of_le_length (by simp), List.take_of_length_le (by simp)]
    unfold Oper.wp execOp
    simp only [resolve, invoke, builtin, Sem.run_bind, Sem.run_pure, Result.andThen_ok, List.map_toArray, List.map_cons, List.map_nil, hf.o1 hx, hf.o1 hy, hmi, hr]
    refine hK _ _ _ _ (hf.put1 (Nat.le_of_ble_eq_true hn) _) ?_ (hs.more (Gives.tail _ _)) (h (some ⟨w.heap.size, 0, none⟩) (grownCap w m 0 e))
    refine ⟨⟨hm.keep.os, hm.keep.tape, hm.keep.output, Nat.le_trans hm.keep.size (by simp), fun k hk hd => (heap_alloc_old w.drew _ (Nat.lt_of_lt_of_le hk hm.keep.size)).trans (hm.keep.block k hk hd)⟩, fun c hc => ?_, fun c hc hcm b hb => ?_, List.Pairwise.cons (fun c hc _ b hb hb' => ?_) hm.sep⟩
    · rcases List.mem_cons.1 hc with rfl | hc
      · exact hown
      · exact Ck.stay (w := w) (by simp) (fun b hb => heap_alloc_old w.drew _ (Ck.lt (hm.all c hc) hb)) (hm.all c hc)
    · rcases List.mem_cons.1 hc with rfl | hc
      · cases hb; exact .inr hm.keep.size
      · exact hm.out c hc hcm b hb
    · cases hb
      exact Nat.lt_irrefl _ (Ck.lt (hm.all c hc) hb')
/-- an own row that is cut behind -/
theorem Gives.owncut {L : List Ck} (k : Nat) {A : Option Addr} {m c : Nat} {T : TypeId} {sz : Nat} {xs : List Value} (q : Nat) (hk : L[k]? = some (.own A m c T sz xs)) (hq : q ≤ m) : Gives L (L.set k (.own A q c T sz (xs.take (q * sz)))) := fun M w h => by
  refine h.turn (c' := .own A q c T sz (xs.take (q * sz))) hk rfl (fun g hg => .inl hg) rfl rfl rfl (Nat.le_refl _) (fun _ _ _ => rfl) ?_
  have h2 := Nat.mul_le_mul_right sz hq
  obtain ⟨hl, ho⟩ : w.ownsRow 0 T sz (.slice A m c) m xs := h.get hk
  refine ⟨by rw [List.length_take, hl]; omega, ?_⟩
  rcases ho with ⟨hv, hm0⟩ | ⟨g, cap, cur, hv, hb, hg, hmc, hcm, hcs, htake⟩
  · left
    cases hv
    exact ⟨by simp; omega, by omega⟩
  · right
    cases hv
    refine ⟨g, _, cur, rfl, hb, hg, by omega, hcm, hcs, ?_⟩
    rw [← htake, List.take_take, Nat.min_eq_left h2]
/-- no elements -/
theorem lx_row0 {E : Env P} {T : TypeId} {dst : Option Tmp} {ty : TypeId} {pos : String} {after : Array Edge} {guard : Option (Nat × Bool)} {d : Nat} {e : TypeId} {j : TyI} (hl : s.loud i = true) {p : Option Bool} (hg : gOf ops t ⟨dst, .buildSlice T 0 #[], ty, pos, after, guard⟩ = some p) (hp : cb p = true) (hd : dst = some d) (hn : Nat.blt d n = true)
    (hT : tyOf E.f T = .slice e) (he : E.f e = some j)
    (h : ∀ b, LX P n M ops s (i + 1) rest Q ((d, none, .slice (some ⟨b, 0, none⟩) 0 0) :: t) (.blk b [] e :: L)) : LX P n M ops s i (⟨dst, .buildSlice T 0 #[], ty, pos, after, guard⟩ :: rest) Q t L :=
  lx_new hl hg hp hd hn (fun b => .slice (some ⟨b, 0, none⟩) 0 0) (fun a w hf => by
    have hs := E.size he w
    have hu := run_underlying (P := P) (tyOf_slice hT) w
    unfold execOp
    refine run_v2 ?_
    have e0 : (Array.range 0).map (fun _ => (default : Value)) = #[] := by apply Array.ext <;> simp
    simp [Instr.buildSlice, hu, hs, Instr.fill, newRow, e0]) h
/-- texts compared -/
theorem sb_beq (l m : List B8) : ((sb l).toList == (sb m).toList) = (l == m) := by
  rw [sb_toList, sb_toList, Bool.eq_iff_iff]
  simp only [beq_iff_eq]
  exact List.map_inj_right (fun a b hab => by cases hab; rfl)
theorem yl_strop {op : BinOp} {p c1 c2 : Option Bool} {dst : Option Tmp} {T T' : TypeId} {x y : Operand} {ty : TypeId} {pos : String} {after : Array Edge} {guard : Option (Nat × Bool)} (l m : List B8) {v : Value}
    (hx : ov t x = some (c1, .string (sb l))) (hy : ov t y = some (c2, .string (sb m))) (h1 : cb p = true → cb c1 = true) (h2 : cb p = true → cb c2 = true) (hv : evStr op (sb l) (sb m) = some v) :
    Yl P n t L p ⟨dst, .binOp op T x y T', ty, pos, after, guard⟩ v := fun hp M a' w hf _ => by
  unfold execOp
  refine run_v ?_
  rw [hf.ov hx (h1 hp), hf.ov hy (h2 hp)]
  cases op <;> simp [evStr] at hv <;> subst hv <;> simp [eqGuard, binOp, Op.stringOp]
theorem yl_seq {p c1 c2 : Option Bool} {dst : Option Tmp} {T T' : TypeId} {x y : Operand} {ty : TypeId} {pos : String} {after : Array Edge} {guard : Option (Nat × Bool)} (l m : List B8)
    (hx : ov t x = some (c1, .string (sb l))) (hy : ov t y = some (c2, .string (sb m))) (h1 : cb p = true → cb c1 = true) (h2 : cb p = true → cb c2 = true) :
    Yl P n t L p ⟨dst, .binOp .eql T x y T', ty, pos, after, guard⟩ (.bool (l == m)) := yl_strop l m hx hy h1 h2 (by rw [evStr, sb_beq])
theorem yl_sne {p c1 c2 : Option Bool} {dst : Option Tmp} {T T' : TypeId} {x y : Operand} {ty : TypeId} {pos : String} {after : Array Edge} {guard : Option (Nat × Bool)} (l m : List B8)
    (hx : ov t x = some (c1, .string (sb l))) (hy : ov t y = some (c2, .string (sb m))) (h1 : cb p = true → cb c1 = true) (h2 : cb p = true → cb c2 = true) :
    Yl P n t L p ⟨dst, .binOp .neq T x y T', ty, pos, after, guard⟩ (.bool (l != m)) := yl_strop l m hx hy h1 h2 (by rw [evStr, sb_beq]; rfl)
end
end Go.Proofs.YtmochicneilhhaaGreat
