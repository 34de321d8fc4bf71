/- What the reading of an argument tells: its cells, by the type's shape. -/
import Derived.Test.YtmochicneilhhaaGreatPBv
import Derived.Test.YtmochicneilhhaaGreatPFrs
import Derived.Test.YtmochicneilhhaaGreatPSs
namespace Go.Proofs.YtmochicneilhhaaGreat
open Go.ChangeShapes Go.WideShapes Go.ChangeAt Go.RowKit Go.Deep
/-- a slice: its value, and what it holds -/
structure Sl (α : Type) where
  A : Option Addr
  n : Nat
  c : Nat
  l : List α
section
variable {H : Type} {enc : TypeId × Value → H} {P : Program} {w : World} {base : Nat} {spare : Nat → Bool} {held : Bool}
/-- whatever is read as of type t is the cells of some x, of which ok holds -/
structure Reads (enc : TypeId × Value → H) (P : Program) (w : World) (base : Nat) (spare : Nat → Bool) (held : Bool) {α : Type} (t : TypeId) (sz : Nat) (cells : α → List Value) (ok : α → Prop) : Prop where
  size : P.cellsOf t = sz
  len : ∀ x, (cells x).length = sz
  read : ∀ n vs y, DataW.trod enc P w base spare held n t vs = some y → ∃ x, vs = cells x ∧ ok x
theorem Reads.map {α β : Type} {t : TypeId} {s : Nat} {c : α → List Value} {ok : α → Prop} (h : Reads enc P w base spare held t s c ok) (g : α → β) {c' : β → List Value} {ok' : β → Prop} (hc : ∀ x, c x = c' (g x)) (hok : ∀ x, ok x → ok' (g x)) (hl : ∀ y, (c' y).length = s) : Reads enc P w base spare held t s c' ok' :=
  ⟨h.size, hl, fun n vs y hy => by
    obtain ⟨x, hx, ho⟩ := h.read n vs y hy
    exact ⟨g x, hx.trans (hc x), hok x ho⟩⟩
theorem reads_int {t : TypeId} {k : IntKind} (ht : P.underlying t = some (.int k)) (hs : P.cellsOf t = 1) : Reads enc P w base spare held t 1 (fun n : Int => [.int k n]) (fun n => (Lit.int k n).wf = true) :=
  ⟨hs, fun _ => rfl, fun n vs y hy => by
    obtain ⟨a, e, _, wa⟩ := DataW.trod_int ht hy
    exact ⟨a, e, wa⟩⟩
theorem wf_of_uk {k : IntKind} {m : Nat} (u : UK k m) (hmin : k.min = 0) (hmax : k.max + 1 = ((2 ^ m : Nat) : Int)) {n : Int} (h : (Lit.int k n).wf = true) : n = ((BitVec.ofInt m n).toNat : Int) := by
  have h1 : k.wrap n = n := by
    simp [Lit.wf] at h
    rw [u.wrap, Int.emod_eq_of_lt] <;> omega
  rw [← u.int, h1]
theorem reads_uk {t : TypeId} {k : IntKind} {m : Nat} (u : UK k m) (hmin : k.min = 0) (hmax : k.max + 1 = ((2 ^ m : Nat) : Int)) (ht : P.underlying t = some (.int k)) (hs : P.cellsOf t = 1) : Reads enc P w base spare held t 1 (fun x : BitVec m => [.int k x.toNat]) (fun _ => True) :=
  ⟨hs, fun _ => rfl, fun n vs y hy => by
    obtain ⟨a, e, _, wa⟩ := DataW.trod_int ht hy
    refine ⟨BitVec.ofInt m a, ?_, trivial⟩
    rw [e, ← wf_of_uk u hmin hmax wa]⟩
theorem reads_u8 {t : TypeId} (ht : P.underlying t = some (.int .u8)) (hs : P.cellsOf t = 1) : Reads enc P w base spare held t 1 (fun x : B8 => [bv x]) (fun _ => True) := reads_uk uk8 rfl rfl ht hs
theorem reads_bool {t : TypeId} (ht : P.underlying t = some .bool) (hs : P.cellsOf t = 1) : Reads enc P w base spare held t 1 (fun b : Bool => [.bool b]) (fun _ => True) :=
  ⟨hs, fun _ => rfl, fun n vs y hy => by
    obtain ⟨a, e, _⟩ := DataW.trod_bool ht hy
    exact ⟨a, e, trivial⟩⟩
theorem reads_str {t : TypeId} (ht : P.underlying t = some .string) (hs : P.cellsOf t = 1) : Reads enc P w base spare held t 1 (fun l : List B8 => [.string (sb l)]) (fun l => l.length ≤ 9223372036854775807) :=
  ⟨hs, fun _ => rfl, fun n vs y hy => by
    obtain ⟨s, e, _, hm⟩ := DataW.trod_string ht hy
    obtain ⟨l, rfl, hl⟩ := sb_ex s
    unfold maxLen at hm
    exact ⟨l, e, by omega⟩⟩
/-- what is said of a slice -/
def Sl.ok {α : Type} (w : World) (s : Nat) (f : α → List Value) (ok : α → Prop) (r : Sl α) : Prop := Row w w.heap.size s r.A r.n (r.l.flatMap f) ∧ r.l.length = r.n ∧ r.n ≤ r.c ∧ r.c ≤ 9223372036854775807 ∧ ∀ x ∈ r.l, ok x
theorem reads_slice {α : Type} {t e : TypeId} {s : Nat} {f : α → List Value} {ok : α → Prop} (hr : Reads enc P w base spare held e s f ok) (ht : P.underlying t = some (.slice e)) (hs : P.cellsOf t = 1) (hpos : 0 < s) :
    Reads enc P w base spare held t 1 (fun r : Sl α => [.slice r.A r.n r.c]) (Sl.ok w s f ok) :=
  ⟨hs, fun _ => rfl, fun k vs y hy => by
    rcases open_slice ht hy with ⟨h0, _⟩ | ⟨a, len, c, m, n, D, Pl, rfl, hb, hl, hm, hmm, hx, hi⟩
    · exact ⟨⟨none, 0, 0, []⟩, h0, ⟨by simp, fun h => absurd h (Nat.lt_irrefl 0)⟩, rfl, Nat.le_refl _, Nat.zero_le _, by simp⟩
    · unfold maxLen at hm
      have hle : len ≤ m := by rw [hmm]; split <;> omega
      have hp : ∀ j, j ≤ len → ∃ l : List α, l.length = j ∧ (∀ q u, (l.flatMap f)[q]? = some u → w.cell? (a.add q) = some u) ∧ ∀ x ∈ l, ok x := by
        intro j
        induction j with
        | zero => intro _; exact ⟨[], rfl, by simp, by simp⟩
        | succ j ih =>
          intro hj
          obtain ⟨l, e1, e2, e3⟩ := ih (by omega)
          obtain ⟨cs', hc, ht'⟩ := hi j (by omega)
          rw [hr.size] at hc
          obtain ⟨x, rfl, hox⟩ := hr.read _ _ _ ht'
          obtain ⟨_, hcl, hat⟩ := World.cells?_some hc
          refine ⟨l ++ [x], by simp [e1], fun q u hu => ?_, fun y hy => ?_⟩
          · rw [List.flatMap_append, List.getElem?_append] at hu
            have hfl : (l.flatMap f).length = j * s := by rw [flat_len hr.len, e1]
            split at hu
            · exact e2 q u hu
            · rename_i hq
              rw [hfl] at hq hu
              simp only [List.flatMap_cons, List.flatMap_nil, List.append_nil] at hu
              have hlt := (List.getElem?_eq_some_iff.1 hu).1
              rw [hr.len] at hlt
              have := hat _ hlt
              rw [Go.Deep.add_add] at this
              rw [show q = j * s + (q - j * s) by omega, this, hu]
          · rcases List.mem_append.1 hy with hy | hy
            · exact e3 y hy
            · obtain rfl := List.mem_singleton.1 hy; exact hox
      obtain ⟨l, e1, e2, e3⟩ := hp len (Nat.le_refl _)
      refine ⟨⟨some a, len, c, l⟩, rfl, ⟨by rw [flat_len hr.len, e1], fun h0 => ?_⟩, e1, hl, by omega, e3⟩
      have hfl : (l.flatMap f).length = len * s := by rw [flat_len hr.len, e1]
      have h0' : 0 < (l.flatMap f).length := by rw [hfl]; exact Nat.mul_pos h0 hpos
      have c0 := e2 0 _ (List.getElem?_eq_getElem h0')
      have hb := lt_of_cell c0
      obtain ⟨b, off, spot⟩ := a
      have hsp : spot = none := by simpa [Addr.add] using World.cell?_spot c0
      subst hsp
      refine ⟨b, off, rfl, by simpa [Addr.add] using hb, fun q u hu => ?_⟩
      have := e2 q u hu
      rw [add_at] at this
      exact this⟩
/-- the fields of a struct from a place on -/
structure FReads (enc : TypeId × Value → H) (P : Program) (w : World) (base : Nat) (spare : Nat → Bool) (held : Bool) {α : Type} (fs : List Field) (off size : Nat) (cells : α → List Value) (ok : α → Prop) : Prop where
  len : ∀ x, (cells x).length = size
  read : ∀ n (vs : List Value), vs.length = off + size → (∀ f ∈ fs, ∃ y, DataW.trod enc P w base spare held n f.type ((vs.drop f.offset).take (P.cellsOf f.type)) = some y) → ∃ x, vs.drop off = cells x ∧ ok x
theorem freads_nil {off : Nat} : FReads enc P w base spare held [] off 0 (fun _ : Unit => []) (fun _ => True) :=
  ⟨fun _ => rfl, fun n vs hl _ => ⟨(), List.drop_eq_nil_of_le (by omega), trivial⟩⟩
theorem freads_cons {α β : Type} {f : Field} {fs : List Field} {off s1 s2 : Nat} {c1 : α → List Value} {c2 : β → List Value} {o1 : α → Prop} {o2 : β → Prop} (h1 : Reads enc P w base spare held f.type s1 c1 o1) (ho : f.offset = off)
    (h2 : FReads enc P w base spare held fs (off + s1) s2 c2 o2) : FReads enc P w base spare held (f :: fs) off (s1 + s2) (fun x : α × β => c1 x.1 ++ c2 x.2) (fun x => o1 x.1 ∧ o2 x.2) :=
  ⟨fun x => by rw [List.length_append, h1.len, h2.len], fun n vs hl hf => by
    obtain ⟨y, hy⟩ := hf f (List.mem_cons_self ..)
    rw [h1.size, ho] at hy
    obtain ⟨x1, e1, k1⟩ := h1.read _ _ _ hy
    obtain ⟨x2, e2, k2⟩ := h2.read n vs (by omega) (fun g hg => hf g (List.mem_cons_of_mem _ hg))
    refine ⟨(x1, x2), ?_, k1, k2⟩
    rw [← e1, ← e2, ← List.drop_drop, List.take_append_drop]⟩
theorem reads_struct {α : Type} {t : TypeId} {fs : Array Field} {s : Nat} {c : α → List Value} {ok : α → Prop} (ht : P.underlying t = some (.struct fs)) (hs : P.cellsOf t = s) (h : FReads enc P w base spare held fs.toList 0 s c ok) : Reads enc P w base spare held t s c ok :=
  ⟨hs, h.len, fun n vs y hy => by
    obtain ⟨ys, n', _, _, hl, hyl, hf⟩ := DataW.trod_struct ht hy
    obtain ⟨x, e, k⟩ := h.read n' vs (by omega) (fun f hf' => by
      obtain ⟨j, hj, rfl⟩ := List.mem_iff_getElem.1 hf'
      have hj' : j < fs.size := by simpa using hj
      have h1 := hf j fs[j] (by simp [hj'])
      have h2 : ys[j]? = some (ys[j]'(by omega)) := List.getElem?_eq_getElem (by omega)
      exact ⟨_, by simpa using h1.trans h2⟩)
    exact ⟨x, by simpa using e, k⟩⟩
/-- arguments -/
theorem arg_cell {α : Type} {t : TypeId} {s : Nat} {c : α → List Value} {ok : α → Prop} {v : Value} {d : DataW H} {p : List MemPlace} (hr : Reads enc P w base spare held t s c ok) (hv : v.cells = #[v]) (h : DataW.Trod enc P w base spare held t v d p) : ∃ x, [v] = c x ∧ ok x := by
  obtain ⟨fuel, hf⟩ := h
  rw [hv] at hf
  exact hr.read _ _ _ hf
theorem arg_agg {α : Type} {t : TypeId} {s : Nat} {c : α → List Value} {ok : α → Prop} {cs : Array Value} {d : DataW H} {p : List MemPlace} (hr : Reads enc P w base spare held t s c ok) (h : DataW.Trod enc P w base spare held t (.agg cs) d p) : ∃ x, cs = (c x).toArray ∧ ok x := by
  obtain ⟨fuel, hf⟩ := h
  obtain ⟨x, e, k⟩ := hr.read _ _ _ hf
  refine ⟨x, ?_, k⟩
  rw [← e]
  simp [Value.cells]
theorem one_int {r : Reach} {b0 : Nat} {t : TypeId} {k : IntKind} {v : Value} (ht : P.underlying t = some (.int k)) (h : Value.okWide P w r b0 t v) : v.cells = #[v] := by obtain ⟨_, rfl⟩ := okWide_int ht h; rfl
theorem one_bool {r : Reach} {b0 : Nat} {t : TypeId} {v : Value} (ht : P.underlying t = some .bool) (h : Value.okWide P w r b0 t v) : v.cells = #[v] := by obtain ⟨_, rfl⟩ := okWide_bool ht h; rfl
theorem one_str {r : Reach} {b0 : Nat} {t : TypeId} {v : Value} (ht : P.underlying t = some .string) (h : Value.okWide P w r b0 t v) : v.cells = #[v] := by obtain ⟨_, rfl⟩ := okWide_string ht h; rfl
theorem one_slice {r : Reach} {b0 : Nat} {t e : TypeId} {v : Value} (ht : P.underlying t = some (.slice e)) (h : Value.okWide P w r b0 t v) : v.cells = #[v] := by obtain ⟨_, _, _, rfl⟩ := okWide_slice ht h; rfl
/-- slices of bytes, and rows of them -/
def u8ok (w : World) (r : Sl B8) : Prop := Row w w.heap.size 1 r.A r.n (bvs r.l) ∧ r.l.length = r.n ∧ r.n ≤ r.c ∧ r.c ≤ 9223372036854775807
theorem flat_bvs (l : List B8) : (l.flatMap fun b => [bv b]) = bvs l := by
  induction l with
  | nil => rfl
  | cons b l ih => rw [List.flatMap_cons, ih]; rfl
theorem reads_bytes {t e : TypeId} (ht : P.underlying t = some (.slice e)) (hs : P.cellsOf t = 1) (he : P.underlying e = some (.int .u8)) (hes : P.cellsOf e = 1) : Reads enc P w base spare held t 1 (fun r : Sl B8 => [.slice r.A r.n r.c]) (u8ok w) :=
  (reads_slice (reads_u8 he hes) ht hs Nat.one_pos).map id (fun _ => rfl) (fun r h => by
    obtain ⟨h1, h2, h3, h4, _⟩ := h
    rw [flat_bvs] at h1
    exact ⟨h1, h2, h3, h4⟩) (fun _ => rfl)
def intsok (w : World) (k : IntKind) (r : Sl Int) : Prop := Row w w.heap.size 1 r.A r.n (ints k r.l) ∧ r.l.length = r.n ∧ r.n ≤ r.c ∧ r.c ≤ 9223372036854775807 ∧ ∀ n ∈ r.l, (Lit.int k n).wf = true
theorem flat_ints (k : IntKind) (l : List Int) : (l.flatMap fun b => [.int k b]) = ints k l := by
  induction l with
  | nil => rfl
  | cons b l ih => rw [List.flatMap_cons, ih]; rfl
theorem reads_ints {t e : TypeId} {k : IntKind} (ht : P.underlying t = some (.slice e)) (hs : P.cellsOf t = 1) (he : P.underlying e = some (.int k)) (hes : P.cellsOf e = 1) : Reads enc P w base spare held t 1 (fun r : Sl Int => [.slice r.A r.n r.c]) (intsok w k) :=
  (reads_slice (reads_int he hes) ht hs Nat.one_pos).map id (fun _ => rfl) (fun r h => by
    obtain ⟨h1, h2, h3, h4, h5⟩ := h
    rw [flat_ints] at h1
    exact ⟨h1, h2, h3, h4, h5⟩) (fun _ => rfl)
end
end Go.Proofs.YtmochicneilhhaaGreat
