/- More rules: bytes and texts, as lists of 8 digits each. More rules: parts of a text; scopes and labels that nothing jumps to. What the reading of an argument tells: its cells, by the type's shape. -/
import Derived.Test.YtmochicneilhhaaGreatPBv
import Derived.Test.YtmochicneilhhaaGreatPMem
import Derived.Test.YtmochicneilhhaaGreatPSf
import Derived.Laws.BytesString
import Derived.Lib.ConvBytes
import Derived.Scope
namespace Go.Proofs.YtmochicneilhhaaGreat
open Go.RowKit
abbrev B8 := BitVec 8
def bv (b : B8) : Value := .int .u8 b.toNat
def bvs (l : List B8) : List Value := l.map bv
/-- a text's bytes -/
def sb (l : List B8) : ByteArray := ⟨(l.map UInt8.ofBitVec).toArray⟩
theorem bvs_len (l : List B8) : (bvs l).length = l.length := by simp [bvs]
theorem bvs_get {l : List B8} {i : Nat} {b : B8} (h : l[i]? = some b) : (bvs l)[i]? = some (bv b) := by simp [bvs, h]
theorem bvs_append (l m : List B8) : bvs (l ++ m) = bvs l ++ bvs m := by simp [bvs]
theorem bvs_one {l : List B8} : ∀ u ∈ bvs l, u.oneCell' = true := by
  intro u hu
  obtain ⟨b, _, rfl⟩ := List.mem_map.1 hu
  rfl
theorem cutL_bvs (l : List B8) (lo hi : Nat) : cutL (bvs l) lo hi 1 = bvs ((l.drop lo).take (hi - lo)) := by
  simp [cutL, bvs, List.map_take, List.map_drop]
theorem sb_size (l : List B8) : (sb l).size = l.length := by
  show (l.map UInt8.ofBitVec).toArray.size = l.length
  simp
theorem sb_list (l : List B8) : (sb l).data.toList = l.map UInt8.ofBitVec := by simp [sb]
theorem sb_ex (s : ByteArray) : ∃ l, s = sb l ∧ l.length = s.size := by
  refine ⟨s.data.toList.map UInt8.toBitVec, ?_, by simp⟩
  cases s with
  | mk d =>
    simp only [sb, List.map_map, ByteArray.mk.injEq]
    have : UInt8.ofBitVec ∘ UInt8.toBitVec = id := by funext x; rfl
    rw [this, List.map_id, Array.toArray_toList]
theorem toList_loop (s : ByteArray) : s.toList = s.data.toList := by
  have h : ∀ (k i : Nat) (r : List UInt8), s.size - i = k → ByteArray.toList.loop s i r = r.reverse ++ s.data.toList.drop i := by
    intro k
    induction k with
    | zero =>
      intro i r hk
      unfold ByteArray.toList.loop
      rw [if_neg (by omega), List.drop_eq_nil_of_le (by simp; omega), List.append_nil]
    | succ k ih =>
      intro i r hk
      unfold ByteArray.toList.loop
      have hi : i < s.size := by omega
      rw [if_pos hi, ih _ _ (by omega)]
      have hi' : i < s.data.toList.length := by simpa using hi
      have hg : s.get! i = s.data.toList[i] := by
        show s.data[i]! = _
        rw [getElem!_pos s.data i (by simpa using hi)]
        simp
      rw [List.drop_eq_getElem_cons hi', hg]
      simp
  have := h s.size 0 [] (by simp)
  simpa [ByteArray.toList] using this
theorem sb_toList (l : List B8) : (sb l).toList = l.map UInt8.ofBitVec := by rw [toList_loop, sb_list]
theorem sb_empty : ByteArray.empty = sb [] := rfl
theorem sb_append (l m : List B8) : sb l ++ sb m = sb (l ++ m) := by
  apply ByteArray.ext
  rw [ByteArray.data_append]
  simp [sb]
theorem sb_get {l : List B8} {i : Nat} {b : B8} (h : l[i]? = some b) : (sb l)[i]? = some (UInt8.ofBitVec b) := by
  have hi : i < l.length := (List.getElem?_eq_some_iff.1 h).1
  have hb := (List.getElem?_eq_some_iff.1 h).2
  rw [getElem?_pos _ _ (by rw [sb_size]; exact hi)]
  show some ((sb l).data[i]'_) = _
  simp [sb, hb]
theorem push_all (ns : List B8) (s : ByteArray) : (ns.map (fun b => (b.toNat : Int))).foldl (fun r n => r.push (UInt8.ofNat n.toNat)) s = s ++ sb ns := by
  induction ns generalizing s with
  | nil =>
    apply ByteArray.ext
    simp [sb]
  | cons b ns ih =>
    rw [List.map_cons, List.foldl_cons, ih]
    apply ByteArray.ext
    rw [ByteArray.data_append, ByteArray.data_append, ByteArray.data_push]
    have : UInt8.ofNat (b.toNat : Int).toNat = UInt8.ofBitVec b := by
      apply UInt8.toBitVec_inj.1
      simp
    rw [this]
    simp [sb]
section
variable {P : Program} {n : Nat} {M : Me} {Q : Post} {t : Fr} {L : List Ck} {ops : Array Oper} {s : Way} {i : Nat} {rest : List Oper}
/-- a text's length -/
theorem yl_slen {E : Env P} {p c : Option Bool} {dst : Option Tmp} {T : TypeId} {x : Operand} {ty : TypeId} {pos : String} {after : Array Edge} {guard : Option (Nat × Bool)} {l : List B8}
    (hx : ov t x = some (c, .string (sb l))) (hT : tyOf E.f T = .string) (h1 : cb p = true → cb c = true) : Yl P n t L p ⟨dst, .call ⟨.builtin .len, #[x], #[T]⟩, ty, pos, after, guard⟩ (.int .i64 l.length) := fun hp M a w hf hm => by
  have hu := run_underlying (P := P) (tyOf_string hT) w
  unfold execOp
  simp [resolve, invoke, builtin, hf.ov hx (h1 hp), Builtin.len_, hu, goInt, sb_size]
/-- a byte of a text -/
theorem yl_sat {E : Env P} {p c c2 : Option Bool} {dst : Option Tmp} {T : TypeId} {x y : Operand} {ty : TypeId} {pos : String} {after : Array Edge} {guard : Option (Nat × Bool)} {l : List B8} {κ : IntKind} {iv : Int} {b : B8}
    (hx : ov t x = some (c, .string (sb l))) (hy : ov t y = some (c2, .int κ iv)) (hT : tyOf E.f T = .string) (h1 : cb p = true → cb c = true) (h2 : cb p = true → cb c2 = true) (hi : cb p = true → 0 ≤ iv ∧ l[iv.toNat]? = some b) :
    Yl P n t L p ⟨dst, .index T x y, ty, pos, after, guard⟩ (bv b) := fun hp M a w hf hm => by
  have hu := run_underlying (P := P) (tyOf_string hT) w
  obtain ⟨h3, h4⟩ := hi hp
  unfold execOp
  refine run_v ?_
  simp [hf.ov hx (h1 hp), hf.ov hy (h2 hp), Instr.index, asIntOf, hu, h3, sb_get h4, bv]
/-- a slice of bytes as a text -/
theorem yl_text {E : Env P} {p c1 : Option Bool} {dst : Option Tmp} {S T : TypeId} {x : Operand} {ty : TypeId} {pos : String} {after : Array Edge} {guard : Option (Nat × Bool)} {A : Option Addr} {m c : Nat} {e : TypeId} {l : List B8}
    (hx : ov t x = some (c1, .slice A m c)) (hS : tyOf E.f S = .slice e) (he : tyOf E.f e = .int .u8) (hT : tyOf E.f T = .string) (hr : ∀ M w, Mem M L w → Row w w.heap.size 1 A m (bvs l)) (h1 : cb p = true → cb c1 = true) :
    Yl P n t L p ⟨dst, .convert S T x, ty, pos, after, guard⟩ (.string (sb l)) := fun hp M a w hf hm => by
  have u1 := run_underlying (P := P) (tyOf_slice hS) w
  have u2 := run_underlying (P := P) (tyOf_string hT) w
  have u3 := run_underlying (P := P) (tyOf_int he) w
  have hrow := hr M w hm
  have hl : l.length = m := by have := hrow.1; rw [bvs_len] at this; omega
  unfold execOp
  refine run_v ?_
  rw [hf.ov hx (h1 hp)]
  unfold convert
  simp only [Sem.run_bind, u1, u2, u3, Result.andThen_ok]
  rcases Nat.eq_zero_or_pos m with h0 | h0
  · subst h0
    have : l = [] := List.eq_nil_of_length_eq_zero hl
    subst this
    cases A with
    | none => rfl
    | some a0 =>
      have := run_bytesToString (P := P) w a0 0 c [] (by simp [loadCells, loadCellsFrom])
      simpa [sb_empty] using this
  · obtain ⟨b, off, rfl, _, hc⟩ := hrow.2 h0
    have hcells := run_loadCells_list (P := P) w ⟨b, off, none⟩ (bvs l) (fun q u hu => by
      have := hc q u hu
      unfold Addr.add
      split
      · rename_i h0; subst h0; simpa using this
      · exact this)
    rw [bvs_len, hl] at hcells
    have e : bvs l = (l.map (fun b => (b.toNat : Int))).map (Value.int .u8) := by simp [bvs, bv]
    rw [e] at hcells
    have := run_bytesToString (P := P) w ⟨b, off, none⟩ m c _ hcells
    rw [push_all] at this
    have h5 : ByteArray.empty ++ sb l = sb l := by rw [sb_empty, sb_append, List.nil_append]
    rw [h5] at this
    exact this
end
end Go.Proofs.YtmochicneilhhaaGreat
namespace Go.Proofs.YtmochicneilhhaaGreat
open Go.RowKit
section
variable {P : Program} {n : Nat} {t : Fr} {L : List Ck}
theorem cx_scope {M : Me} {Q : Post} {c : Code} (h : CX P n M c Q t L) : CX P n M (.scope c) Q t L := fun a w hf hm => by
  refine wp_scope_straight (wp_mono (h a w hf hm) fun e a' w' hq => ?_)
  cases e <;> first
    | exact hq
    | exact hq.elim
theorem cx_label {M : Me} {Q : Post} {l : Nat} (h : Q .normal t L) : CX P n M (.label l) Q t L := fun _ _ hf hm => wp_label ⟨t, L, hf, hm, h⟩
end
end Go.Proofs.YtmochicneilhhaaGreat
namespace Go.Proofs.YtmochicneilhhaaGreat
open Go.ChangeShapes Go.WideShapes Go.ChangeAt Go.RowKit Go.Deep
/-- a slice: its value, and what it holds -/
structure Sl (α : Type) where
  A : Option Addr
  n : Nat
  c : Nat
  l : List α
section
variable {H : Type} {enc : TypeId × Value → H} {P : Program} {w : World} {base : Nat} {spare : Nat → Bool} {held : Bool}
/-- whatever is read as of type t is the cells of some x, of which ok holds -/
structure Reads (enc : TypeId × Value → H) (P : Program) (w : World) (base : Nat) (spare : Nat → Bool) (held : Bool) {α : Type} (t : TypeId) (sz : Nat) (cells : α → List Value) (ok : α → Prop) : Prop where
  size : P.cellsOf t = sz
  len : ∀ x, (cells x).length = sz
  read : ∀ n vs y, DataW.trod enc P w base spare held n t vs = some y → ∃ x, vs = cells x ∧ ok x
theorem Reads.map {α β : Type} {t : TypeId} {s : Nat} {c : α → List Value} {ok : α → Prop} (h : Reads enc P w base spare held t s c ok) (g : α → β) {c' : β → List Value} {ok' : β → Prop} (hc : ∀ x, c x = c' (g x)) (hok : ∀ x, ok x → ok' (g x)) (hl : ∀ y, (c' y).length = s) : Reads enc P w base spare held t s c' ok' :=
  ⟨h.size, hl, fun n vs y hy => by
    obtain ⟨x, hx, ho⟩ := h.read n vs y hy
    exact ⟨g x, hx.trans (hc x), hok x ho⟩⟩
theorem reads_int {t : TypeId} {k : IntKind} (ht : P.underlying t = some (.int k)) (hs : P.cellsOf t = 1) : Reads enc P w base spare held t 1 (fun n : Int => [.int k n]) (fun n => (Lit.int k n).wf = true) :=
  ⟨hs, fun _ => rfl, fun n vs y hy => by
    obtain ⟨a, e, _, wa⟩ := DataW.trod_int ht hy
    exact ⟨a, e, wa⟩⟩
theorem wf_of_uk {k : IntKind} {m : Nat} (u : UK k m) (hmin : k.min = 0) (hmax : k.max + 1 = ((2 ^ m : Nat) : Int)) {n : Int} (h : (Lit.int k n).wf = true) : n = ((BitVec.ofInt m n).toNat : Int) := by
  have h1 : k.wrap n = n := by
    simp [Lit.wf] at h
    rw [u.wrap, Int.emod_eq_of_lt] <;> omega
  rw [← u.int, h1]
theorem reads_uk {t : TypeId} {k : IntKind} {m : Nat} (u : UK k m) (hmin : k.min = 0) (hmax : k.max + 1 = ((2 ^ m : Nat) : Int)) (ht : P.underlying t = some (.int k)) (hs : P.cellsOf t = 1) : Reads enc P w base spare held t 1 (fun x : BitVec m => [.int k x.toNat]) (fun _ => True) :=
  ⟨hs, fun _ => rfl, fun n vs y hy => by
    obtain ⟨a, e, _, wa⟩ := DataW.trod_int ht hy
    refine ⟨BitVec.ofInt m a, ?_, trivial⟩
    rw [e, ← wf_of_uk u hmin hmax wa]⟩
theorem reads_u8 {t : TypeId} (ht : P.underlying t = some (.int .u8)) (hs : P.cellsOf t = 1) : Reads enc P w base spare held t 1 (fun x : B8 => [bv x]) (fun _ => True) := reads_uk uk8 rfl rfl ht hs
theorem reads_str {t : TypeId} (ht : P.underlying t = some .string) (hs : P.cellsOf t = 1) : Reads enc P w base spare held t 1 (fun l : List B8 => [.string (sb l)]) (fun l => l.length ≤ 9223372036854775807) :=
  ⟨hs, fun _ => rfl, fun n vs y hy => by
    obtain ⟨s, e, _, hm⟩ := DataW.trod_string ht hy
    obtain ⟨l, rfl, hl⟩ := sb_ex s
    unfold maxLen at hm
    exact ⟨l, e, by omega⟩⟩
/-- what is said of a slice -/
def Sl.ok {α : Type} (w : World) (s : Nat) (f : α → List Value) (ok : α → Prop) (r : Sl α) : Prop := Row w w.heap.size s r.A r.n (r.l.flatMap f) ∧ r.l.length = r.n ∧ r.n ≤ r.c ∧ r.c ≤ 9223372036854775807 ∧ ∀ x ∈ r.l, ok x
theorem reads_slice {α : Type} {t e : TypeId} {s : Nat} {f : α → List Value} {ok : α → Prop} (hr : Reads enc P w base spare held e s f ok) (ht : P.underlying t = some (.slice e)) (hs : P.cellsOf t = 1) (hpos : 0 < s) :
    Reads enc P w base spare held t 1 (fun r : Sl α => [.slice r.A r.n r.c]) (Sl.ok w s f ok) :=
  ⟨hs, fun _ => rfl, fun k vs y hy => by
    rcases open_slice ht hy with ⟨h0, _⟩ | ⟨a, len, c, m, n, D, Pl, rfl, hb, hl, hm, hmm, hx, hi⟩
    · exact ⟨⟨none, 0, 0, []⟩, h0, ⟨by simp, fun h => absurd h (Nat.lt_irrefl 0)⟩, rfl, Nat.le_refl _, Nat.zero_le _, by simp⟩
    · unfold maxLen at hm
      have hle : len ≤ m := by rw [hmm]; split <;> omega
      have hp : ∀ j, j ≤ len → ∃ l : List α, l.length = j ∧ (∀ q u, (l.flatMap f)[q]? = some u → w.cell? (a.add q) = some u) ∧ ∀ x ∈ l, ok x := by
        intro j
        induction j with
        | zero => intro _; exact ⟨[], rfl, by simp, by simp⟩
        | succ j ih =>
          intro hj
          obtain ⟨l, e1, e2, e3⟩ := ih (by omega)
          obtain ⟨cs', hc, ht'⟩ := hi j (by omega)
          rw [hr.size] at hc
          obtain ⟨x, rfl, hox⟩ := hr.read _ _ _ ht'
          obtain ⟨_, hcl, hat⟩ := World.cells?_some hc
          refine ⟨l ++ [x], by simp [e1], fun q u hu => ?_, fun y hy => ?_⟩
          · rw [List.flatMap_append, List.getElem?_append] at hu
            have hfl : (l.flatMap f).length = j * s := by rw [flat_len hr.len, e1]
            split at hu
            · exact e2 q u hu
            · rename_i hq
              rw [hfl] at hq hu
              simp only [List.flatMap_cons, List.flatMap_nil, List.append_nil] at hu
              have hlt := (List.getElem?_eq_some_iff.1 hu).1
              rw [hr.len] at hlt
              have := hat _ hlt
              rw [Go.Deep.add_add] at this
              rw [show q = j * s + (q - j * s) by omega, this, hu]
          · rcases List.mem_append.1 hy with hy | hy
            · exact e3 y hy
            · obtain rfl := List.mem_singleton.1 hy; exact hox
      obtain ⟨l, e1, e2, e3⟩ := hp len (Nat.le_refl _)
      refine ⟨⟨some a, len, c, l⟩, rfl, ⟨by rw [flat_len hr.len, e1], fun h0 => ?_⟩, e1, hl, by omega, e3⟩
      have hfl : (l.flatMap f).length = len * s := by rw [flat_len hr.len, e1]
      have h0' : 0 < (l.flatMap f).length := by rw [hfl]; exact Nat.mul_pos h0 hpos
      have c0 := e2 0 _ (List.getElem?_eq_getElem h0')
      have hb := lt_of_cell c0
      obtain ⟨b, off, spot⟩ := a
      have hsp : spot = none := by simpa [Addr.add] using World.cell?_spot c0
      subst hsp
      refine ⟨b, off, rfl, by simpa [Addr.add] using hb, fun q u hu => ?_⟩
      have := e2 q u hu
      rw [add_at] at this
      exact this⟩
/-- the fields of a struct from a place on -/
structure FReads (enc : TypeId × Value → H) (P : Program) (w : World) (base : Nat) (spare : Nat → Bool) (held : Bool) {α : Type} (fs : List Field) (off size : Nat) (cells : α → List Value) (ok : α → Prop) : Prop where
  len : ∀ x, (cells x).length = size
  read : ∀ n (vs : List Value), vs.length = off + size → (∀ f ∈ fs, ∃ y, DataW.trod enc P w base spare held n f.type ((vs.drop f.offset).take (P.cellsOf f.type)) = some y) → ∃ x, vs.drop off = cells x ∧ ok x
theorem freads_nil {off : Nat} : FReads enc P w base spare held [] off 0 (fun _ : Unit => []) (fun _ => True) :=
  ⟨fun _ => rfl, fun n vs hl _ => ⟨(), List.drop_eq_nil_of_le (by omega), trivial⟩⟩
theorem freads_cons {α β : Type} {f : Field} {fs : List Field} {off s1 s2 : Nat} {c1 : α → List Value} {c2 : β → List Value} {o1 : α → Prop} {o2 : β → Prop} (h1 : Reads enc P w base spare held f.type s1 c1 o1) (ho : f.offset = off)
    (h2 : FReads enc P w base spare held fs (off + s1) s2 c2 o2) : FReads enc P w base spare held (f :: fs) off (s1 + s2) (fun x : α × β => c1 x.1 ++ c2 x.2) (fun x => o1 x.1 ∧ o2 x.2) :=
  ⟨fun x => by rw [List.length_append, h1.len, h2.len], fun n vs hl hf => by
    obtain ⟨y, hy⟩ := hf f (List.mem_cons_self ..)
    rw [h1.size, ho] at hy
    obtain ⟨x1, e1, k1⟩ := h1.read _ _ _ hy
    obtain ⟨x2, e2, k2⟩ := h2.read n vs (by omega) (fun g hg => hf g (List.mem_cons_of_mem _ hg))
    refine ⟨(x1, x2), ?_, k1, k2⟩
    rw [← e1, ← e2, ← List.drop_drop, List.take_append_drop]⟩
theorem reads_struct {α : Type} {t : TypeId} {fs : Array Field} {s : Nat} {c : α → List Value} {ok : α → Prop} (ht : P.underlying t = some (.struct fs)) (hs : P.cellsOf t = s) (h : FReads enc P w base spare held fs.toList 0 s c ok) : Reads enc P w base spare held t s c ok :=
  ⟨hs, h.len, fun n vs y hy => by
    obtain ⟨ys, n', _, _, hl, hyl, hf⟩ := DataW.trod_struct ht hy
    obtain ⟨x, e, k⟩ := h.read n' vs (by omega) (fun f hf' => by
      obtain ⟨j, hj, rfl⟩ := List.mem_iff_getElem.1 hf'
      have hj' : j < fs.size := by simpa using hj
      have h1 := hf j fs[j] (by simp [hj'])
      have h2 : ys[j]? = some (ys[j]'(by omega)) := List.getElem?_eq_getElem (by omega)
      exact ⟨_, by simpa using h1.trans h2⟩)
    exact ⟨x, by simpa using e, k⟩⟩
/-- arguments -/
theorem arg_cell {α : Type} {t : TypeId} {s : Nat} {c : α → List Value} {ok : α → Prop} {v : Value} {d : DataW H} {p : List MemPlace} (hr : Reads enc P w base spare held t s c ok) (hv : v.cells = #[v]) (h : DataW.Trod enc P w base spare held t v d p) : ∃ x, [v] = c x ∧ ok x := by
  obtain ⟨fuel, hf⟩ := h
  rw [hv] at hf
  exact hr.read _ _ _ hf
theorem arg_agg {α : Type} {t : TypeId} {s : Nat} {c : α → List Value} {ok : α → Prop} {cs : Array Value} {d : DataW H} {p : List MemPlace} (hr : Reads enc P w base spare held t s c ok) (h : DataW.Trod enc P w base spare held t (.agg cs) d p) : ∃ x, cs = (c x).toArray ∧ ok x := by
  obtain ⟨fuel, hf⟩ := h
  obtain ⟨x, e, k⟩ := hr.read _ _ _ hf
  refine ⟨x, ?_, k⟩
  rw [← e]
  simp [Value.cells]
theorem one_int {r : Reach} {b0 : Nat} {t : TypeId} {k : IntKind} {v : Value} (ht : P.underlying t = some (.int k)) (h : Value.okWide P w r b0 t v) : v.cells = #[v] := by obtain ⟨_, rfl⟩ := okWide_int ht h; rfl
theorem one_slice {r : Reach} {b0 : Nat} {t e : TypeId} {v : Value} (ht : P.underlying t = some (.slice e)) (h : Value.okWide P w r b0 t v) : v.cells = #[v] := by obtain ⟨_, _, _, rfl⟩ := okWide_slice ht h; rfl
/-- slices of bytes, and rows of them -/
def u8ok (w : World) (r : Sl B8) : Prop := Row w w.heap.size 1 r.A r.n (bvs r.l) ∧ r.l.length = r.n ∧ r.n ≤ r.c ∧ r.c ≤ 9223372036854775807
theorem flat_bvs (l : List B8) : (l.flatMap fun b => [bv b]) = bvs l := by
  induction l with
  | nil => rfl
  | cons b l ih => rw [List.flatMap_cons, ih]; rfl
theorem reads_bytes {t e : TypeId} (ht : P.underlying t = some (.slice e)) (hs : P.cellsOf t = 1) (he : P.underlying e = some (.int .u8)) (hes : P.cellsOf e = 1) : Reads enc P w base spare held t 1 (fun r : Sl B8 => [.slice r.A r.n r.c]) (u8ok w) :=
  (reads_slice (reads_u8 he hes) ht hs Nat.one_pos).map id (fun _ => rfl) (fun r h => by
    obtain ⟨h1, h2, h3, h4, _⟩ := h
    rw [flat_bvs] at h1
    exact ⟨h1, h2, h3, h4⟩) (fun _ => rfl)
end
end Go.Proofs.YtmochicneilhhaaGreat
