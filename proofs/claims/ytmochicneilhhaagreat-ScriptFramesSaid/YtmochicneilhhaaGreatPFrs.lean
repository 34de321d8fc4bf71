/- Small words that all walks of this seat share: facts kept aside, old cells behind a call. From the reading of arguments to the rows that the walks ask for. An argument that is a slice of structs, as a row of cells. -/
import Derived.WalkKit
import Derived.ProofKit
import Derived.OpenShut
import Derived.Outline
import Derived.Lib.Hide
import Derived.RegionTactic
import Derived.Deep.QuietTactic
import Derived.Deep.RegionWith
import Derived.BigQuiet
import Derived.Laws.Rows
import Derived.Deep.LoopGhost
import Derived.Below
import Derived.ChangeOld
import Derived.ShutString
import Derived.Carry
import Derived.Lib.SmallJoins
import Derived.Deep.Slices
import Derived.Deep.Fields
import Derived.ChangeSame
namespace Go.Proofs.YtmochicneilhhaaGreat
open Go.RowKit

/-- A fact behind a name, whole. -/
theorem keep {p : Prop} (h : p) : Hid p := h
theorem get {p : Prop} (h : Hid p) : p := h

/-- Behind a call that only made blocks of its own: all cells and marks of before. -/
theorem olds {W w1 : World} (hb : Below W.heap.size W w1) :
    (∀ b o, b < W.heap.size → w1.cell? ⟨b, o, none⟩ = W.cell? ⟨b, o, none⟩) ∧ (∀ b o, b < W.heap.size → w1.frozen? ⟨b, o, none⟩ = W.frozen? ⟨b, o, none⟩) :=
  ⟨fun b o h => hb.cell (p := ⟨b, o, none⟩) h, fun b o h => hb.frozen (p := ⟨b, o, none⟩) h⟩

theorem ret_tuple2 {a b a' b' : Value} (h1 : a = a') (h2 : b = b') : Ending.returned (.tuple #[a, b]) = .returned (.tuple #[a', b']) := by rw [h1, h2]
theorem ret_bool {a b : Bool} (h : a = b) : Ending.returned (.bool a) = .returned (.bool b) := by rw [h]
theorem ret_int {k : IntKind} {a b : Int} (h : a = b) : Ending.returned (.int k a) = .returned (.int k b) := by rw [h]

/-- Block g holds just these cells, none of them marked. -/
def Blk (w : World) (g : Nat) (cs : Array Value) (t : TypeId) : Prop := w.heap[g]? = some (.cells cs t (0, 0))
section
variable {w w' : World} {g : Nat} {t : TypeId} {cs : Array Value}
theorem Blk.lt (h : Blk w g cs t) : g < w.heap.size := by
  by_cases hl : g < w.heap.size
  · exact hl
  · unfold Blk at h
    rw [Array.getElem?_eq_none (by omega)] at h
    cases h
theorem Blk.cell (h : Blk w g cs t) (i : Nat) : w.cell? ⟨g, i, none⟩ = cs[i]? := cell_of_row w g i cs t (0, 0) h
theorem Blk.free (h : Blk w g cs t) (i : Nat) : w.frozen? ⟨g, i, none⟩ = false := by
  unfold Blk at h
  simp [World.frozen?, h]
theorem Blk.born (w : World) (cs : Array Value) (t : TypeId) : Blk (w.alloc (.cells cs t)) w.heap.size cs t := heap_alloc_new w _
theorem Blk.drew (h : Blk w g cs t) : Blk w.drew g cs t := h
theorem Blk.alloc (h : Blk w g cs t) (o : Obj) : Blk (w.alloc o) g cs t := (Below.heap_alloc w o g h.lt).trans h
theorem Blk.put (h : Blk w g cs t) (i : Nat) (u : Value) : Blk (w.setCell ⟨g, i, none⟩ u) g (cs.setIfInBounds i u) t := by
  unfold Blk at h ⊢
  simp [World.setCell, Array.getElem?_modify, h]
theorem Blk.away (h : Blk w g cs t) {p : Addr} (hp : g ≠ p.block) (u : Value) : Blk (w.setCell p u) g cs t := (Below.heap_setCell w p u g hp).trans h
theorem Blk.below (h : Blk w g cs t) {B : Nat} (hb : Below B w w') (hg : g < B) : Blk w' g cs t := (hb.block g hg).trans h
theorem Blk.call (h : Blk w g cs t) (hb : Below w.heap.size w w') : Blk w' g cs t := h.below hb h.lt
end

/-- The slice value '.slice A n c' holds n elements of 'size' cells each: the cells xs, in a block below B (of a nil or empty slice nothing is asked). -/
def Row (w : World) (B size : Nat) (A : Option Addr) (n : Nat) (xs : List Value) : Prop :=
  xs.length = n * size ∧ (0 < n → ∃ b off, A = some ⟨b, off, none⟩ ∧ b < B ∧ ∀ j u, xs[j]? = some u → w.cell? ⟨b, off + j, none⟩ = some u)
section
variable {w w' : World} {B B' size n : Nat} {A : Option Addr} {xs : List Value}
theorem Row.carry (h : Row w B size A n xs) (hk : ∀ p : Addr, p.block < B → w'.cell? p = w.cell? p) : Row w' B size A n xs := by
  refine ⟨h.1, fun hn => ?_⟩
  obtain ⟨b, off, e, hb, hc⟩ := h.2 hn
  exact ⟨b, off, e, hb, fun j u hu => (hk _ hb).trans (hc j u hu)⟩
theorem Row.wider (h : Row w B size A n xs) (hB : B ≤ B') : Row w B' size A n xs := by
  refine ⟨h.1, fun hn => ?_⟩
  obtain ⟨b, off, e, hb, hc⟩ := h.2 hn
  exact ⟨b, off, e, by omega, hc⟩
theorem Row.below (h : Row w B size A n xs) (hb : Below B w w') : Row w' B size A n xs := h.carry fun _ hp => hb.cell hp
theorem Row.alloc (h : Row w B size A n xs) (hB : B ≤ w.heap.size) (o : Obj) : Row (w.alloc o) B size A n xs := h.carry fun p hp => World.cell?_alloc_lt w o p (by omega)
end
/-- a row that was just made -/
theorem Row.born (w : World) (xs : List Value) (t : TypeId) (size n : Nat) (hn : xs.length = n * size) : Row (w.alloc (.cells xs.toArray t)) (w.alloc (.cells xs.toArray t)).heap.size size (some ⟨w.heap.size, 0, none⟩) n xs := by
  refine ⟨hn, fun _ => ⟨w.heap.size, 0, rfl, by simp, fun j u hu => ?_⟩⟩
  rw [(Blk.born w xs.toArray t).cell, ← hu]
  simp
/-- a row of numbers -/
def ints (k : IntKind) (zs : List Int) : List Value := zs.map (Value.int k)
theorem ints_at {k : IntKind} {zs : List Int} {i : Nat} (h : i < zs.length) : (ints k zs)[i]? = some (.int k (zs.getD i 0)) := by
  simp [ints, h]
end Go.Proofs.YtmochicneilhhaaGreat
namespace Go.Proofs.YtmochicneilhhaaGreat
open Go.ChangeShapes Go.WideShapes Go.ChangeAt Go.RowKit

/-- a cell that is there lies in a block that is there -/
theorem lt_of_cell {w : World} {a : Addr} {v : Value} (h : w.cell? a = some v) : a.block < w.heap.size := by
  by_cases hl : a.block < w.heap.size
  · exact hl
  · exfalso
    have e : w.heap[a.block]? = none := Array.getElem?_eq_none (by omega)
    unfold World.cell? at h
    simp [e] at h
/-- A slice of numbers that came in, as a row. -/
theorem row_of_ints {H : Type} {enc : TypeId × Value → H} {P : Program} {W : World} {base : Nat} {spare : Nat → Bool} {held : Bool} {k : IntKind} {t e : TypeId} {A : Option Addr} {len cap : Nat} {d : DataW H} {p : List MemPlace}
    (ht : P.underlying t = some (.slice e)) (he : P.underlying e = some (.int k)) (hc : P.cellsOf e = 1) (h : DataW.Trod enc P W base spare held t (.slice A len cap) d p) :
    ∃ zs : List Int, (∀ n ∈ zs, (Lit.int k n).wf = true) ∧ Row W W.heap.size 1 A len (ints k zs) ∧ len ≤ 9223372036854775807 ∧ len ≤ cap := by
  obtain ⟨fuel, hf⟩ := h
  rcases open_ints ht he hc hf with ⟨hcs, _⟩ | ⟨x, l, c, zs, hcs, _, hl, hm, hz, hx, hcell, hwz⟩
  · simp [Value.cells] at hcs
    obtain ⟨rfl, rfl, rfl⟩ := hcs
    exact ⟨[], by simp, ⟨by simp [ints], fun h => absurd h (by omega)⟩, by simp, by simp⟩
  · simp [Value.cells] at hcs
    obtain ⟨rfl, rfl, rfl⟩ := hcs
    have hlen : len ≤ zs.length := by rw [hz]; split <;> omega
    unfold maxLen at hm
    refine ⟨zs.take len, fun n hn => hwz n (List.mem_of_mem_take hn), ⟨by simp [ints]; omega, fun h0 => ?_⟩, by omega, hl⟩
    have c0 := hcell 0 (by omega)
    have hb := lt_of_cell c0
    obtain ⟨b, off, spot⟩ := x
    have hs : spot = none := by simpa [Addr.add] using World.cell?_spot c0
    subst hs
    refine ⟨b, off, rfl, by simpa [Addr.add] using hb, fun j u hu => ?_⟩
    have hj : j < len := by
      have := (List.getElem?_eq_some_iff.1 hu).1
      simp [ints] at this
      omega
    have hcj := hcell j (by omega)
    have hu' : u = .int k (zs.getD j 0) := by
      simp only [ints, List.map_take, List.getElem?_take, hj, if_true, List.getElem?_map] at hu
      rw [List.getElem?_eq_getElem (by omega)] at hu
      simp at hu
      rw [← hu, List.getD_eq_getElem?_getD, List.getElem?_eq_getElem (by omega)]
      rfl
    rw [hu', ← hcj]
    by_cases h0 : j = 0 <;> simp [Addr.add, h0]
end Go.Proofs.YtmochicneilhhaaGreat
namespace Go.Proofs.YtmochicneilhhaaGreat
open Go.ChangeShapes Go.WideShapes Go.ChangeAt Go.RowKit Go.Deep
section
variable {H : Type} {enc : TypeId × Value → H} {P : Program} {w : World} {base : Nat} {spare : Nat → Bool} {held : Bool}
/-- a slice of structs of one-cell fields: its cells, and how each was read -/
theorem row_of_structs {t e : TypeId} {fs : Array Field} {A : Option Addr} {len cap : Nat} {d : DataW H} {p : List MemPlace} (ht : P.underlying t = some (.slice e)) (he : P.underlying e = some (.struct fs))
    (hone : oneCellFields P fs = true) (hC : P.cellsOf e = fs.size) (hpos : 0 < fs.size) (h : DataW.Trod enc P w base spare held t (.slice A len cap) d p) :
    ∃ cs : List Value, Row w w.heap.size fs.size A len cs ∧ len ≤ 9223372036854775807 ∧ len ≤ cap ∧
      ∀ i, i < len → ∀ (j : Nat) (f : Field), fs[j]? = some f → ∃ (v : Value) (y : DataW H × List MemPlace) (n : Nat), cs[i * fs.size + j]? = some v ∧ DataW.trod enc P w base spare held n f.type [v] = some y := by
  obtain ⟨fuel, hf⟩ := h
  rcases open_slice ht hf with ⟨h0, _⟩ | ⟨a, l, c, m, n, D, Pl, hcs, hb, hl, hm, hmm, hx, hi⟩
  · simp [Value.cells] at h0
    obtain ⟨rfl, rfl, rfl⟩ := h0
    exact ⟨[], ⟨by simp, fun h => absurd h (by omega)⟩, by omega, by omega, fun i hi => absurd hi (by omega)⟩
  · simp [Value.cells] at hcs
    obtain ⟨rfl, rfl, rfl⟩ := hcs
    unfold maxLen at hm
    have hle : len ≤ m := by rw [hmm]; split <;> omega
    have hall : ∀ i, i < len → ∀ (j : Nat) (f : Field), fs[j]? = some f → ∃ (v : Value) (y : DataW H × List MemPlace) (n : Nat), w.cell? (a.add (i * fs.size + j)) = some v ∧ DataW.trod enc P w base spare held n f.type [v] = some y := by
      intro i hil j f hj
      obtain ⟨cs', hc, ht'⟩ := hi i (by omega)
      rw [hC] at hc
      obtain ⟨ys, n', hn', hy, hlen, hyl, hf⟩ := DataW.trod_struct he ht'
      obtain ⟨_, hcl, hat⟩ := World.cells?_some hc
      obtain ⟨ho, hk⟩ := hone_of hone j f hj
      have hjl : j < fs.size := (Array.getElem?_eq_some_iff.1 hj).1
      have hcell := hat j hjl
      have hv : cs'[j]? = some (cs'[j]'(by omega)) := List.getElem?_eq_getElem (by omega)
      have h1 := hf j f hj
      rw [ho, hk] at h1
      have hone' : (cs'.drop j).take 1 = [cs'[j]'(by omega)] := by
        rw [List.drop_eq_getElem_cons (by omega)]
        rfl
      rw [hone'] at h1
      have hys : ys[j]? = some (ys[j]'(by omega)) := List.getElem?_eq_getElem (by omega)
      refine ⟨_, _, _, ?_, h1.trans hys⟩
      rw [← Go.Deep.add_add, hcell, hv]
    have hcell : ∀ q, q < len * fs.size → ∃ v, w.cell? (a.add q) = some v := by
      intro q hq
      have h1 : q / fs.size < len := Nat.div_lt_of_lt_mul (by rw [Nat.mul_comm]; exact hq)
      have h2 : q % fs.size < fs.size := Nat.mod_lt _ hpos
      obtain ⟨v, y, n, hv, _⟩ := hall _ h1 (q % fs.size) _ (Array.getElem?_eq_getElem h2)
      have e : q / fs.size * fs.size + q % fs.size = q := by rw [Nat.mul_comm]; exact Nat.div_add_mod q fs.size
      rw [e] at hv
      exact ⟨v, hv⟩
    refine ⟨(List.range (len * fs.size)).map fun q => (w.cell? (a.add q)).getD undef, ⟨by simp, fun h0 => ?_⟩, by omega, hl, fun i hil j f hj => ?_⟩
    · obtain ⟨v, hv⟩ := hcell 0 (Nat.mul_pos h0 hpos)
      have hb := lt_of_cell hv
      obtain ⟨b, off, spot⟩ := a
      have hs : spot = none := by simpa [Addr.add] using World.cell?_spot hv
      subst hs
      refine ⟨b, off, rfl, by simpa [Addr.add] using hb, fun q u hu => ?_⟩
      have hq : q < len * fs.size := by
        have := (List.getElem?_eq_some_iff.1 hu).1
        simpa using this
      obtain ⟨v', hv'⟩ := hcell q hq
      simp [hq] at hu
      rw [hv'] at hu
      simp at hu
      subst hu
      rw [← hv']
      by_cases h0 : q = 0 <;> simp [Addr.add, h0]
    · obtain ⟨v, y, n, hv, hy⟩ := hall i hil j f hj
      have hjl : j < fs.size := (Array.getElem?_eq_some_iff.1 hj).1
      refine ⟨v, y, n, ?_, hy⟩
      have hq : i * fs.size + j < len * fs.size := by
        have := Nat.mul_le_mul_right fs.size (show i + 1 ≤ len by omega)
        rw [Nat.add_mul, Nat.one_mul] at this
        omega
      simp [hq, hv]
/-- a slice of pairs of numbers -/
theorem row_of_pairs {t e : TypeId} {f0 f1 : Field} {k0 k1 : IntKind} {A : Option Addr} {len cap : Nat} {d : DataW H} {p : List MemPlace} (ht : P.underlying t = some (.slice e)) (he : P.underlying e = some (.struct #[f0, f1]))
    (h0 : P.underlying f0.type = some (.int k0)) (h1 : P.underlying f1.type = some (.int k1)) (hone : oneCellFields P #[f0, f1] = true) (hC : P.cellsOf e = 2) (h : DataW.Trod enc P w base spare held t (.slice A len cap) d p) :
    ∃ xs : List (Int × Int), xs.length = len ∧ Row w w.heap.size 2 A len (xs.flatMap fun x => [.int k0 x.1, .int k1 x.2]) ∧ len ≤ 9223372036854775807 ∧ len ≤ cap ∧ ∀ x ∈ xs, (Lit.int k0 x.1).wf = true ∧ (Lit.int k1 x.2).wf = true := by
  obtain ⟨cs, hr, hl, hc, hf⟩ := row_of_structs ht he hone hC (Nat.zero_lt_succ _) h
  have hp : ∀ m, m ≤ len → ∃ xs : List (Int × Int), xs.length = m ∧ cs.take (m * 2) = (xs.flatMap fun x => [.int k0 x.1, .int k1 x.2]) ∧ ∀ x ∈ xs, (Lit.int k0 x.1).wf = true ∧ (Lit.int k1 x.2).wf = true := by
    intro m
    induction m with
    | zero => intro _; exact ⟨[], rfl, by simp, by simp⟩
    | succ m ih =>
      intro hm
      obtain ⟨xs, e1, e2, e3⟩ := ih (by omega)
      obtain ⟨v, y, n, hv, hy⟩ := hf m (by omega) 0 f0 rfl
      obtain ⟨v', y', n', hv', hy'⟩ := hf m (by omega) 1 f1 rfl
      obtain ⟨a, ea, _, wa⟩ := DataW.trod_int h0 hy
      obtain ⟨b, eb, _, wb⟩ := DataW.trod_int h1 hy'
      simp at ea eb
      subst ea eb
      have hv : cs[m * 2]? = some (.int k0 a) := hv
      have hv' : cs[m * 2 + 1]? = some (.int k1 b) := hv'
      refine ⟨xs ++ [(a, b)], by simp [e1], ?_, fun x hx => ?_⟩
      · rw [show (m + 1) * 2 = m * 2 + 1 + 1 by omega, List.take_add_one, List.take_add_one, hv, hv', e2]
        simp
      · rcases List.mem_append.1 hx with hx | hx
        · exact e3 x hx
        · simp at hx
          subst hx
          exact ⟨wa, wb⟩
  obtain ⟨xs, e1, e2, e3⟩ := hp len (Nat.le_refl _)
  refine ⟨xs, e1, ?_, hl, hc, e3⟩
  have : cs.length = len * 2 := hr.1
  rw [List.take_of_length_le (by omega)] at e2
  rw [← e2]
  exact hr
end
end Go.Proofs.YtmochicneilhhaaGreat
