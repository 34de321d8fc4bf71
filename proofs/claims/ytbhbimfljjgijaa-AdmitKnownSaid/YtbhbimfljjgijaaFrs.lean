/- An argument that is a slice of structs, as a row of cells. -/
import Derived.Test.YtbhbimfljjgijaaFrame
import Derived.Deep.Slices
import Derived.Deep.Fields
import Derived.ChangeSame
namespace Go.Proofs.Ytbhbimfljjgijaa
open Go.ChangeShapes Go.WideShapes Go.ChangeAt Go.RowKit Go.Deep
section
variable {H : Type} {enc : TypeId × Value → H} {P : Program} {w : World} {base : Nat} {spare : Nat → Bool} {held : Bool}
/-- a slice of structs of one-cell fields: its cells, and how each was read -/
theorem row_of_structs {t e : TypeId} {fs : Array Field} {A : Option Addr} {len cap : Nat} {d : DataW H} {p : List MemPlace} (ht : P.underlying t = some (.slice e)) (he : P.underlying e = some (.struct fs))
    (hone : oneCellFields P fs = true) (hC : P.cellsOf e = fs.size) (hpos : 0 < fs.size) (h : DataW.Trod enc P w base spare held t (.slice A len cap) d p) :
    ∃ cs : List Value, Row w w.heap.size fs.size A len cs ∧ len ≤ 9223372036854775807 ∧ len ≤ cap ∧
      ∀ i, i < len → ∀ (j : Nat) (f : Field), fs[j]? = some f → ∃ (v : Value) (y : DataW H × List MemPlace) (n : Nat), cs[i * fs.size + j]? = some v ∧ DataW.trod enc P w base spare held n f.type [v] = some y := by
  obtain ⟨fuel, hf⟩ := h
  rcases open_slice ht hf with ⟨h0, _⟩ | ⟨a, l, c, m, n, D, Pl, hcs, hb, hl, hm, hmm, hx, hi⟩
  · simp [Value.cells] at h0
    obtain ⟨rfl, rfl, rfl⟩ := h0
    exact ⟨[], ⟨by simp, fun h => absurd h (by omega)⟩, by omega, by omega, fun i hi => absurd hi (by omega)⟩
  · simp [Value.cells] at hcs
    obtain ⟨rfl, rfl, rfl⟩ := hcs
    unfold maxLen at hm
    have hle : len ≤ m := by rw [hmm]; split <;> omega
    have hall : ∀ i, i < len → ∀ (j : Nat) (f : Field), fs[j]? = some f → ∃ (v : Value) (y : DataW H × List MemPlace) (n : Nat), w.cell? (a.add (i * fs.size + j)) = some v ∧ DataW.trod enc P w base spare held n f.type [v] = some y := by
      intro i hil j f hj
      obtain ⟨cs', hc, ht'⟩ := hi i (by omega)
      rw [hC] at hc
      obtain ⟨ys, n', hn', hy, hlen, hyl, hf⟩ := DataW.trod_struct he ht'
      obtain ⟨_, hcl, hat⟩ := World.cells?_some hc
      obtain ⟨ho, hk⟩ := hone_of hone j f hj
      have hjl : j < fs.size := (Array.getElem?_eq_some_iff.1 hj).1
      have hcell := hat j hjl
      have hv : cs'[j]? = some (cs'[j]'(by omega)) := List.getElem?_eq_getElem (by omega)
      have h1 := hf j f hj
      rw [ho, hk] at h1
      have hone' : (cs'.drop j).take 1 = [cs'[j]'(by omega)] := by
        rw [List.drop_eq_getElem_cons (by omega)]
        rfl
      rw [hone'] at h1
      have hys : ys[j]? = some (ys[j]'(by omega)) := List.getElem?_eq_getElem (by omega)
      refine ⟨_, _, _, ?_, h1.trans hys⟩
      rw [← Go.Deep.add_add, hcell, hv]
    have hcell : ∀ q, q < len * fs.size → ∃ v, w.cell? (a.add q) = some v := by
      intro q hq
      have h1 : q / fs.size < len := Nat.div_lt_of_lt_mul (by rw [Nat.mul_comm]; exact hq)
      have h2 : q % fs.size < fs.size := Nat.mod_lt _ hpos
      obtain ⟨v, y, n, hv, _⟩ := hall _ h1 (q % fs.size) _ (Array.getElem?_eq_getElem h2)
      have e : q / fs.size * fs.size + q % fs.size = q := by rw [Nat.mul_comm]; exact Nat.div_add_mod q fs.size
      rw [e] at hv
      exact ⟨v, hv⟩
    refine ⟨(List.range (len * fs.size)).map fun q => (w.cell? (a.add q)).getD undef, ⟨by simp, fun h0 => ?_⟩, by omega, hl, fun i hil j f hj => ?_⟩
    · obtain ⟨v, hv⟩ := hcell 0 (Nat.mul_pos h0 hpos)
      have hb := lt_of_cell hv
      obtain ⟨b, off, spot⟩ := a
      have hs : spot = none := by simpa [Addr.add] using World.cell?_spot hv
      subst hs
      refine ⟨b, off, rfl, by simpa [Addr.add] using hb, fun q u hu => ?_⟩
      have hq : q < len * fs.size := by
        have := (List.getElem?_eq_some_iff.1 hu).1
        simpa using this
      obtain ⟨v', hv'⟩ := hcell q hq
      simp [hq] at hu
      rw [hv'] at hu
      simp at hu
      subst hu
      rw [← hv']
      by_cases h0 : q = 0 <;> simp [Addr.add, h0]
    · obtain ⟨v, y, n, hv, hy⟩ := hall i hil j f hj
      have hjl : j < fs.size := (Array.getElem?_eq_some_iff.1 hj).1
      refine ⟨v, y, n, ?_, hy⟩
      have hq : i * fs.size + j < len * fs.size := by
        have := Nat.mul_le_mul_right fs.size (show i + 1 ≤ len by omega)
        rw [Nat.add_mul, Nat.one_mul] at this
        omega
      simp [hq, hv]
/-- a slice of pairs of numbers -/
theorem row_of_pairs {t e : TypeId} {f0 f1 : Field} {k0 k1 : IntKind} {A : Option Addr} {len cap : Nat} {d : DataW H} {p : List MemPlace} (ht : P.underlying t = some (.slice e)) (he : P.underlying e = some (.struct #[f0, f1]))
    (h0 : P.underlying f0.type = some (.int k0)) (h1 : P.underlying f1.type = some (.int k1)) (hone : oneCellFields P #[f0, f1] = true) (hC : P.cellsOf e = 2) (h : DataW.Trod enc P w base spare held t (.slice A len cap) d p) :
    ∃ xs : List (Int × Int), xs.length = len ∧ Row w w.heap.size 2 A len (xs.flatMap fun x => [.int k0 x.1, .int k1 x.2]) ∧ len ≤ 9223372036854775807 ∧ len ≤ cap ∧ ∀ x ∈ xs, (Lit.int k0 x.1).wf = true ∧ (Lit.int k1 x.2).wf = true := by
  obtain ⟨cs, hr, hl, hc, hf⟩ := row_of_structs ht he hone hC (Nat.zero_lt_succ _) h
  have hp : ∀ m, m ≤ len → ∃ xs : List (Int × Int), xs.length = m ∧ cs.take (m * 2) = (xs.flatMap fun x => [.int k0 x.1, .int k1 x.2]) ∧ ∀ x ∈ xs, (Lit.int k0 x.1).wf = true ∧ (Lit.int k1 x.2).wf = true := by
    intro m
    induction m with
    | zero => intro _; exact ⟨[], rfl, by simp, by simp⟩
    | succ m ih =>
      intro hm
      obtain ⟨xs, e1, e2, e3⟩ := ih (by omega)
      obtain ⟨v, y, n, hv, hy⟩ := hf m (by omega) 0 f0 rfl
      obtain ⟨v', y', n', hv', hy'⟩ := hf m (by omega) 1 f1 rfl
      obtain ⟨a, ea, _, wa⟩ := DataW.trod_int h0 hy
      obtain ⟨b, eb, _, wb⟩ := DataW.trod_int h1 hy'
      simp at ea eb
      subst ea eb
      have hv : cs[m * 2]? = some (.int k0 a) := hv
      have hv' : cs[m * 2 + 1]? = some (.int k1 b) := hv'
      refine ⟨xs ++ [(a, b)], by simp [e1], ?_, fun x hx => ?_⟩
      · rw [show (m + 1) * 2 = m * 2 + 1 + 1 by omega, List.take_add_one, List.take_add_one, hv, hv', e2]
        simp
      · rcases List.mem_append.1 hx with hx | hx
        · exact e3 x hx
        · simp at hx
          subst hx
          exact ⟨wa, wb⟩
  obtain ⟨xs, e1, e2, e3⟩ := hp len (Nat.le_refl _)
  refine ⟨xs, e1, ?_, hl, hc, e3⟩
  have : cs.length = len * 2 := hr.1
  rw [List.take_of_length_le (by omega)] at e2
  rw [← e2]
  exact hr
end
end Go.Proofs.Ytbhbimfljjgijaa
