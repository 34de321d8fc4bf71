/- Small words that all walks of this seat share: facts kept aside, old cells behind a call. append onto a row of the call's own, the source a row that is nil, empty or not; what the owner of a row may say of it. What a walk knows of memory: chunks (whole blocks, own rows, rows that are read), apart from one another; what stood before is as it was, but for the blocks of D. -/
import Derived.WalkKit
import Derived.ProofKit
import Derived.OpenShut
import Derived.Outline
import Derived.Lib.Hide
import Derived.RegionTactic
import Derived.Deep.QuietTactic
import Derived.Deep.RegionWith
import Derived.BigQuiet
import Derived.Laws.Rows
import Derived.Deep.LoopGhost
import Derived.Maps.AppendAt
import Derived.Deep.AppendLies
import Derived.Laws.OwnMore
namespace Go.Proofs.YtmochicneilhhaaGreat
open Go.RowKit

/-- A fact behind a name, whole. -/
theorem keep {p : Prop} (h : p) : Hid p := h
theorem get {p : Prop} (h : Hid p) : p := h

/-- Block g holds just these cells, none of them marked. -/
def Blk (w : World) (g : Nat) (cs : Array Value) (t : TypeId) : Prop := w.heap[g]? = some (.cells cs t (0, 0))
section
variable {w w' : World} {g : Nat} {t : TypeId} {cs : Array Value}
theorem Blk.lt (h : Blk w g cs t) : g < w.heap.size := by
  by_cases hl : g < w.heap.size
  · exact hl
  · unfold Blk at h
    rw [Array.getElem?_eq_none (by omega)] at h
    cases h
theorem Blk.cell (h : Blk w g cs t) (i : Nat) : w.cell? ⟨g, i, none⟩ = cs[i]? := cell_of_row w g i cs t (0, 0) h
theorem Blk.free (h : Blk w g cs t) (i : Nat) : w.frozen? ⟨g, i, none⟩ = false := by
  unfold Blk at h
  simp [World.frozen?, h]
theorem Blk.born (w : World) (cs : Array Value) (t : TypeId) : Blk (w.alloc (.cells cs t)) w.heap.size cs t := heap_alloc_new w _
theorem Blk.drew (h : Blk w g cs t) : Blk w.drew g cs t := h
theorem Blk.alloc (h : Blk w g cs t) (o : Obj) : Blk (w.alloc o) g cs t := (Below.heap_alloc w o g h.lt).trans h
theorem Blk.put (h : Blk w g cs t) (i : Nat) (u : Value) : Blk (w.setCell ⟨g, i, none⟩ u) g (cs.setIfInBounds i u) t := by
  unfold Blk at h ⊢
  simp [World.setCell, Array.getElem?_modify, h]
theorem Blk.away (h : Blk w g cs t) {p : Addr} (hp : g ≠ p.block) (u : Value) : Blk (w.setCell p u) g cs t := (Below.heap_setCell w p u g hp).trans h
theorem Blk.below (h : Blk w g cs t) {B : Nat} (hb : Below B w w') (hg : g < B) : Blk w' g cs t := (hb.block g hg).trans h
theorem Blk.call (h : Blk w g cs t) (hb : Below w.heap.size w w') : Blk w' g cs t := h.below hb h.lt
end

/-- The slice value '.slice A n c' holds n elements of 'size' cells each: the cells xs, in a block below B (of a nil or empty slice nothing is asked). -/
def Row (w : World) (B size : Nat) (A : Option Addr) (n : Nat) (xs : List Value) : Prop :=
  xs.length = n * size ∧ (0 < n → ∃ b off, A = some ⟨b, off, none⟩ ∧ b < B ∧ ∀ j u, xs[j]? = some u → w.cell? ⟨b, off + j, none⟩ = some u)
section
variable {w w' : World} {B B' size n : Nat} {A : Option Addr} {xs : List Value}
theorem Row.carry (h : Row w B size A n xs) (hk : ∀ p : Addr, p.block < B → w'.cell? p = w.cell? p) : Row w' B size A n xs := by
  refine ⟨h.1, fun hn => ?_⟩
  obtain ⟨b, off, e, hb, hc⟩ := h.2 hn
  exact ⟨b, off, e, hb, fun j u hu => (hk _ hb).trans (hc j u hu)⟩
theorem Row.below (h : Row w B size A n xs) (hb : Below B w w') : Row w' B size A n xs := h.carry fun _ hp => hb.cell hp
theorem Row.alloc (h : Row w B size A n xs) (hB : B ≤ w.heap.size) (o : Obj) : Row (w.alloc o) B size A n xs := h.carry fun p hp => World.cell?_alloc_lt w o p (by omega)
end
/-- a row that was just made -/
theorem Row.born (w : World) (xs : List Value) (t : TypeId) (size n : Nat) (hn : xs.length = n * size) : Row (w.alloc (.cells xs.toArray t)) (w.alloc (.cells xs.toArray t)).heap.size size (some ⟨w.heap.size, 0, none⟩) n xs := by
  refine ⟨hn, fun _ => ⟨w.heap.size, 0, rfl, by simp, fun j u hu => ?_⟩⟩
  rw [(Blk.born w xs.toArray t).cell, ← hu]
  simp
/-- a row of numbers -/
def ints (k : IntKind) (zs : List Int) : List Value := zs.map (Value.int k)
theorem ints_at {k : IntKind} {zs : List Int} {i : Nat} (h : i < zs.length) : (ints k zs)[i]? = some (.int k (zs.getD i 0)) := by
  simp [ints, h]
end Go.Proofs.YtmochicneilhhaaGreat
namespace Go.Proofs.YtmochicneilhhaaGreat
open Go.RowKit
section
variable {P : Program}

theorem run_append_nothing (w : World) (base : Nat) (t ty e : TypeId) (i : TypeInfo) (size : Nat) (ht : P.underlying t = some (.slice e)) (hi : P.info? e = some i)
    (v : Value) (n : Nat) (xs : List Value) (hown : w.ownsRow base e size v n xs) (c : Nat) : (Builtin.append_ #[t, t] ty #[v, .slice none 0 c]).run P w = .ok v w := by
  obtain ⟨_, h⟩ := hown
  rcases h with ⟨rfl, rfl⟩ | ⟨g, cap, cur, rfl, _, _, hle, _⟩
  · simp [Builtin.append_, run_underlying ht, sizeOf, typeInfo, hi, Builtin.lenOf, Builtin.firstCells]
  · simp [Builtin.append_, run_underlying ht, sizeOf, typeInfo, hi, Builtin.lenOf, Builtin.firstCells, hle, storeCells]

/-- what an append onto an own row leaves -/
structure Grew (w : World) (base : Nat) (e : TypeId) (size : Nat) (v : Value) (n : Nat) (all : List Value) (v' : Value) (w' : World) : Prop where
  own : w'.ownsRow base e size v' n all
  grown : w.grownBy w' v.ownBlock
  at_ : v'.ownBlock = v.ownBlock ∨ v'.ownBlock = some w.heap.size

theorem run_append_row (w : World) (base : Nat) (t ty e : TypeId) (i : TypeInfo) (z : Value) (size bytes : Nat) (ht : P.underlying t = some (.slice e)) (hi : P.info? e = some i) (hz : i.zero = some z)
    (hsize : i.size = size) (hby : i.bytes = bytes) (hzs : z.cells.size = size) (hsz : 0 < size)
    (v : Value) (n : Nat) (xs : List Value) (hown : w.ownsRow base e size v n xs)
    (B : Nat) (A : Option Addr) (m c : Nat) (news : List Value) (hr : Row w B size A m news) (h1 : ∀ u ∈ news, u.oneCell' = true)
    (h63 : n + m ≤ maxLen) (hbytes : (n + m) * bytes ≤ 140737488355328) (hbase : base ≤ w.heap.size) :
    ∃ v' w', (Builtin.append_ #[t, t] ty #[v, .slice A m c]).run P w = .ok v' w' ∧ Grew w base e size v (n + m) (xs ++ news) v' w' := by
  have hempty : m = 0 → news = [] := fun h0 => List.eq_nil_of_length_eq_zero (by rw [hr.1, h0, Nat.zero_mul])
  cases A with
  | none =>
    have hm : m = 0 := by
      by_cases h0 : 0 < m
      · obtain ⟨_, _, h, _⟩ := hr.2 h0
        cases h
      · omega
    subst hm
    rw [hempty rfl]
    exact ⟨v, w, run_append_nothing w base t ty e i size ht hi v n xs hown c, by simpa using hown, World.grownBy.refl w _, .inl rfl⟩
  | some ad =>
    have hcells : ∀ j u, news[j]? = some u → w.cell? (ad.add j) = some u := by
      intro j u hu
      by_cases h0 : 0 < m
      · obtain ⟨b, off, h, _, hc⟩ := hr.2 h0
        injection h with h
        subst h
        rw [← hc j u hu]
        unfold Addr.add
        split <;> simp_all
      · rw [hempty (by omega)] at hu
        simp at hu
    obtain ⟨v', w', hrun, h2, h3, _, h5⟩ := run_append_own_at (P := P) w base t ty e i z size bytes ht hi hz hsize hby hzs hsz v n xs hown ad m c news hr.1 hcells h1 h63 hbytes hbase
    exact ⟨v', w', hrun, h2, h3, h5⟩

theorem wp_append_row (w : World) {o : Oper} {a : Act} {K : Act → World → Prop} {Q : Exit → Act → World → Prop} (s x : Operand) (t : TypeId)
    (ho : o.op = .call { callee := .builtin .append, args := #[s, x], argTypes := #[t, t] })
    (base : Nat) (e : TypeId) (i : TypeInfo) (z : Value) (size bytes : Nat) (ht : P.underlying t = some (.slice e)) (hi : P.info? e = some i) (hz : i.zero = some z)
    (hsize : i.size = size) (hby : i.bytes = bytes) (hzs : z.cells.size = size) (hsz : 0 < size)
    (v : Value) (n : Nat) (xs : List Value) (hs : a.eval s = v) (hown : w.ownsRow base e size v n xs)
    (B : Nat) (A : Option Addr) (m c : Nat) (news : List Value) (hx : a.eval x = .slice A m c) (hr : Row w B size A m news) (h1 : ∀ u ∈ news, u.oneCell' = true)
    (h63 : n + m ≤ maxLen) (hbytes : (n + m) * bytes ≤ 140737488355328) (hbase : base ≤ w.heap.size)
    (h : ∀ v' w', Grew w base e size v (n + m) (xs ++ news) v' w' → K (a.put o.dst v') w') : o.wp P a w K Q := by
  obtain ⟨v', w', hrun, hg⟩ := run_append_row (P := P) w base t o.type e i z size bytes ht hi hz hsize hby hzs hsz v n xs hown B A m c news hr h1 h63 hbytes hbase
  unfold Oper.wp execOp
  simp only [ho, resolve, invoke, builtin, Sem.run_bind, Sem.run_pure, Result.andThen_ok, List.map_toArray, List.map_cons, List.map_nil, hs, hx, hrun]
  exact h v' w' hg

end

section
variable {w w' : World} {base : Nat} {e : TypeId} {size n : Nat} {v v' : Value} {xs all : List Value}
theorem Grew.below {B : Nat} (h : Grew w base e size v n all v' w') (hb : B ≤ w.heap.size) (hv : ∀ k, v.ownBlock = some k → B ≤ k) : Below B w w' := (Below.refl _ _).grown h.grown hb hv
/-- an own row, as a row -/
theorem row_of_own {A : Option Addr} {c : Nat} (h : w.ownsRow base e size (.slice A n c) n xs) : Row w w.heap.size size A n xs := by
  obtain ⟨h0, h1⟩ := h
  refine ⟨h0, fun hn => ?_⟩
  rcases h1 with ⟨_, h2⟩ | ⟨g, cap, cur, hv, _, hg, _, _, hcs, htake⟩
  · omega
  · simp only [Value.slice.injEq] at hv
    obtain ⟨rfl, _, _⟩ := hv
    refine ⟨g, 0, rfl, (Array.getElem?_eq_some_iff.1 hg).1, fun j u hu => ?_⟩
    rw [show (⟨g, 0 + j, none⟩ : Addr) = ⟨g, j, none⟩ by simp, cell_of_row w g j cur e (0, 0) hg]
    rw [← htake] at hu
    simp only [List.getElem?_take] at hu
    split at hu
    · simpa using hu
    · cases hu
/-- the shape of an own row's value -/
theorem own_shape (h : w.ownsRow base e size v n xs) : ∃ A c, v = .slice A n c := by
  rcases h.2 with ⟨rfl, rfl⟩ | ⟨g, cap, cur, rfl, _⟩
  · exact ⟨none, 0, rfl⟩
  · exact ⟨_, _, rfl⟩
end
end Go.Proofs.YtmochicneilhhaaGreat
namespace Go.Proofs.YtmochicneilhhaaGreat
open Go.RowKit

structure Me where
  w0 : World
  D : List Nat

structure Keep (M : Me) (w : World) : Prop where
  os : w.os = M.w0.os
  tape : w.tape = M.w0.tape
  output : w.output = M.w0.output
  size : M.w0.heap.size ≤ w.heap.size
  block : ∀ k, k < M.w0.heap.size → k ∉ M.D → w.heap[k]? = M.w0.heap[k]?

/-- what is said of blocks of these numbers alone, and of blocks that are there -/
def Stable (on : Nat → Prop) (p : World → Prop) : Prop := ∀ w, p w → (∀ b, on b → b < w.heap.size) ∧ ∀ w', w.heap.size ≤ w'.heap.size → (∀ b, on b → w'.heap[b]? = w.heap[b]?) → p w'
inductive Ck where
  | blk (b : Nat) (cs : List Value) (T : TypeId)
  | own (A : Option Addr) (n c : Nat) (T : TypeId) (size : Nat) (xs : List Value)
  | ro (A : Option Addr) (n : Nat) (size : Nat) (xs : List Value)
  | deep (on : Nat → Prop) (p : World → Prop) (ok : Stable on p)
  | obj (b : Nat) (o : Obj)
def Ck.holds (w : World) : Ck → Prop
  | .blk b cs T => Blk w b cs.toArray T
  | .own A n c T size xs => w.ownsRow 0 T size (.slice A n c) n xs
  | .ro A n size xs => Row w w.heap.size size A n xs
  | .deep _ p _ => p w
  | .obj b o => w.heap[b]? = some o
def Ck.on : Ck → Nat → Prop
  | .blk b _ _ => fun g => b = g
  | .own A _ _ _ _ _ => fun g => A.map (·.block) = some g
  | .ro A n _ _ => fun g => n ≠ 0 ∧ A.map (·.block) = some g
  | .deep on _ _ => on
  | .obj b _ => fun g => b = g
def Ck.mut_ : Ck → Bool
  | .ro .. => false
  | .deep .. => false
  | _ => true
def Ck.Apart (c d : Ck) : Prop := (c.mut_ = true ∨ d.mut_ = true) → ∀ b, c.on b → ¬ d.on b
theorem Ck.Apart.symm {c d : Ck} (h : c.Apart d) : d.Apart c := fun hm b hd hc => h hm.symm b hc hd

structure Mem (M : Me) (L : List Ck) (w : World) : Prop where
  keep : Keep M w
  all : ∀ c ∈ L, c.holds w
  out : ∀ c ∈ L, c.mut_ = true → ∀ b, c.on b → b ∈ M.D ∨ M.w0.heap.size ≤ b
  sep : L.Pairwise Ck.Apart

section
variable {M : Me} {L : List Ck} {w w' : World}

theorem Row.lt_of {n size : Nat} {xs : List Value} {A : Option Addr} {b : Nat} (h : Row w w.heap.size size A n xs) (hn : n ≠ 0) (hA : A.map (·.block) = some b) : b < w.heap.size := by
  obtain ⟨g, off, rfl, hg, _⟩ := h.2 (by omega)
  cases hA
  exact hg
theorem Row.stay {n size : Nat} {xs : List Value} {A : Option Addr} (h : Row w w.heap.size size A n xs) (hsz : w.heap.size ≤ w'.heap.size) (hb : ∀ b, n ≠ 0 ∧ A.map (·.block) = some b → w'.heap[b]? = w.heap[b]?) : Row w' w'.heap.size size A n xs := by
  refine ⟨h.1, fun hn => ?_⟩
  obtain ⟨g, off, rfl, hg, hcell⟩ := h.2 hn
  refine ⟨g, off, rfl, Nat.lt_of_lt_of_le hg hsz, fun j u hu => ?_⟩
  rw [World.cell?_of_block (w := w) (a := ⟨g, off + j, none⟩) (hb g ⟨by omega, rfl⟩)]
  exact hcell j u hu
theorem Ck.lt {c : Ck} (h : c.holds w) {b : Nat} (hb : c.on b) : b < w.heap.size := by
  cases c with
  | blk g cs T => cases hb; exact Blk.lt h
  | own A n c T size xs =>
    cases A with
    | none => cases hb
    | some a =>
      cases hb
      exact (World.ownsRow.lt h _ rfl).2
  | ro A n size xs => exact Row.lt_of h hb.1 hb.2
  | deep on p ok => exact (ok w h).1 b hb
  | obj g o => cases hb; exact (Array.getElem?_eq_some_iff.1 h).1

/-- a chunk stays where its blocks stay -/
theorem Ck.stay {c : Ck} (hsz : w.heap.size ≤ w'.heap.size) (h : ∀ b, c.on b → w'.heap[b]? = w.heap[b]?) (hc : c.holds w) : c.holds w' := by
  cases c with
  | blk g cs T => exact (h g rfl).trans hc
  | own A n c T size xs =>
    obtain ⟨h1, h2⟩ := hc
    refine ⟨h1, ?_⟩
    rcases h2 with h2 | ⟨g, cap, cur, hv, hg, hh, r⟩
    · exact .inl h2
    · refine .inr ⟨g, cap, cur, hv, hg, ?_, r⟩
      cases A with
      | none => simp at hv
      | some a =>
        have : a.block = g := by simp at hv; rw [hv.1]
        rw [h g (by simp [Ck.on, this])]
        exact hh
  | ro A n size xs => exact Row.stay hc hsz h
  | deep on p ok => exact (ok w hc).2 w' hsz h
  | obj g o => exact (h g rfl).trans hc

theorem Mem.drew (h : Mem M L w) : Mem M L w.drew :=
  ⟨⟨h.keep.os, h.keep.tape, h.keep.output, h.keep.size, h.keep.block⟩, fun c hc => Ck.stay (w := w) (w' := w.drew) (Nat.le_refl _) (fun _ _ => rfl) (h.all c hc), h.out, h.sep⟩

theorem Mem.alloc (h : Mem M L w) (cs : List Value) (T : TypeId) : Mem M (.blk w.heap.size cs T :: L) (w.alloc (.cells cs.toArray T)) := by
  have hold : ∀ b, b < w.heap.size → (w.alloc (.cells cs.toArray T)).heap[b]? = w.heap[b]? := fun b hb => Below.heap_alloc w _ b hb
  refine ⟨⟨h.keep.os, h.keep.tape, h.keep.output, Nat.le_trans h.keep.size (by simp), fun k hk hd => (hold k (Nat.lt_of_lt_of_le hk h.keep.size)).trans (h.keep.block k hk hd)⟩, ?_, ?_, ?_⟩
  · intro c hc
    rcases List.mem_cons.1 hc with rfl | hc
    · exact Blk.born w cs.toArray T
    · exact Ck.stay (by simp) (fun b hb => hold b (Ck.lt (h.all c hc) hb)) (h.all c hc)
  · intro c hc hm b hb
    rcases List.mem_cons.1 hc with rfl | hc
    · cases hb; exact .inr h.keep.size
    · exact h.out c hc hm b hb
  · refine List.Pairwise.cons (fun c hc _ b hb hb' => ?_) h.sep
    cases hb
    exact Nat.lt_irrefl _ (Ck.lt (h.all c hc) hb')

/-- one chunk turns into another one at the same block (or a new one), all else stays -/
theorem Mem.turn {k : Nat} {c c' : Ck} (h : Mem M L w) (hk : L[k]? = some c) (hm : c.mut_ = true) (hat : ∀ b, c'.on b → c.on b ∨ w.heap.size ≤ b)
    (hos : w'.os = w.os) (htape : w'.tape = w.tape) (hout : w'.output = w.output) (hsz : w.heap.size ≤ w'.heap.size) (hst : ∀ b, b < w.heap.size → ¬ c.on b → w'.heap[b]? = w.heap[b]?) (hc : c'.holds w') : Mem M (L.set k c') w' := by
  have hkl : k < L.length := (List.getElem?_eq_some_iff.1 hk).1
  have hkc : L[k] = c := (List.getElem?_eq_some_iff.1 hk).2
  have hcm : c ∈ L := hkc ▸ List.getElem_mem hkl
  have hout_c : ∀ b, c.on b → b ∈ M.D ∨ M.w0.heap.size ≤ b := h.out c hcm hm
  have oth : ∀ j (hj : j < L.length), j ≠ k → (L[j]).Apart c := by
    intro j hj hjk
    rcases Nat.lt_or_gt_of_ne hjk with hl | hg
    · exact hkc ▸ List.pairwise_iff_getElem.1 h.sep j k hj hkl hl
    · exact (hkc ▸ List.pairwise_iff_getElem.1 h.sep k j hkl hj hg).symm
  refine ⟨⟨hos.trans h.keep.os, htape.trans h.keep.tape, hout.trans h.keep.output, Nat.le_trans h.keep.size hsz, fun b hb hd => ?_⟩, ?_, ?_, ?_⟩
  · rw [hst b (Nat.lt_of_lt_of_le hb h.keep.size) (fun hcb => ?_)]
    · exact h.keep.block b hb hd
    · rcases hout_c b hcb with h' | h'
      · exact hd h'
      · omega
  · intro x hx
    obtain ⟨j, hj, rfl⟩ := List.mem_iff_getElem.1 hx
    rw [List.getElem_set]
    split
    · exact hc
    · rename_i hjk
      have hj' : j < L.length := by simpa using hj
      exact Ck.stay hsz (fun b hb => hst b (Ck.lt (h.all _ (List.getElem_mem hj')) hb) (oth j hj' (Ne.symm hjk) (.inr hm) b hb)) (h.all _ (List.getElem_mem hj'))
  · intro x hx hxm b hb
    obtain ⟨j, hj, rfl⟩ := List.mem_iff_getElem.1 hx
    rw [List.getElem_set] at hb hxm
    split at hb
    · rcases hat b hb with h' | h'
      · exact hout_c b h'
      · exact .inr (Nat.le_trans h.keep.size h')
    · rename_i hjk
      have hj' : j < L.length := by simpa using hj
      rw [if_neg hjk] at hxm
      exact h.out _ (List.getElem_mem hj') hxm b hb
  · have key : ∀ j (hj : j < L.length), j ≠ k → (L[j]).Apart c' := by
      intro j hj hjk _ b hb hb'
      rcases hat b hb' with h' | h'
      · exact oth j hj hjk (.inr hm) b hb h'
      · exact absurd (Ck.lt (h.all _ (List.getElem_mem hj)) hb) (by omega)
    rw [List.pairwise_iff_getElem]
    intro i j hi hj hij
    have hi' : i < L.length := by simpa using hi
    have hj' : j < L.length := by simpa using hj
    rw [List.getElem_set, List.getElem_set]
    split
    · rename_i hki
      rw [if_neg (by omega)]
      exact (key j hj' (by omega)).symm
    · split
      · exact key i hi' (by omega)
      · exact List.pairwise_iff_getElem.1 h.sep i j hi' hj' hij

theorem Mem.get {k : Nat} {c : Ck} (h : Mem M L w) (hk : L[k]? = some c) : c.holds w := h.all c (List.mem_of_getElem? hk)

/-- a store into a whole block -/
theorem Mem.store {k b off : Nat} {cs : List Value} {T : TypeId} (h : Mem M L w) (hk : L[k]? = some (.blk b cs T)) (v : Value) : Mem M (L.set k (.blk b (cs.set off v) T)) (w.setCell ⟨b, off, none⟩ v) := by
  refine h.turn hk rfl (fun b hb => .inl hb) rfl rfl rfl (by simp [World.setCell]) (fun g hg hne => Below.heap_setCell _ _ _ _ (fun e => hne (by rw [e]; exact rfl))) ?_
  have := (show Blk w b cs.toArray T from h.get hk).put off v
  simpa [Ck.holds] using this

theorem Mem.cell {k b off : Nat} {cs : List Value} {T : TypeId} {v : Value} (h : Mem M L w) (hk : L[k]? = some (.blk b cs T)) (hv : cs[off]? = some v) : w.cell? ⟨b, off, none⟩ = some v := by
  rw [(show Blk w b cs.toArray T from h.get hk).cell]
  simpa using hv
theorem Mem.free {k b : Nat} {cs : List Value} {T : TypeId} (h : Mem M L w) (hk : L[k]? = some (.blk b cs T)) (off : Nat) : w.frozen? ⟨b, off, none⟩ = false := (show Blk w b cs.toArray T from h.get hk).free off

/-- a sublist, in whatever order, each at most once -/
def pickL (L : List Ck) (ks : List Nat) : List Ck := ks.filterMap (L[·]?)
theorem Mem.pick (h : Mem M L w) (ks : List Nat) (hn : ks.Nodup) : Mem M (pickL L ks) w := by
  have mem : ∀ c ∈ pickL L ks, c ∈ L := by
    intro c hc
    obtain ⟨k, _, hk⟩ := List.mem_filterMap.1 hc
    exact List.mem_of_getElem? hk
  refine ⟨h.keep, fun c hc => h.all c (mem c hc), fun c hc => h.out c (mem c hc), ?_⟩
  induction ks with
  | nil => exact List.Pairwise.nil
  | cons k ks ih =>
    have ih := ih (List.nodup_cons.1 hn).2 (fun c hc => mem c (by
      unfold pickL at *
      rw [List.filterMap_cons]
      split
      · exact hc
      · exact List.mem_cons_of_mem _ hc))
    unfold pickL at *
    rw [List.filterMap_cons]
    cases hk : L[k]? with
    | none => exact ih
    | some c =>
      refine List.Pairwise.cons (fun d hd => ?_) ih
      obtain ⟨j, hj, hjd⟩ := List.mem_filterMap.1 hd
      have hjk : j ≠ k := fun e => (List.nodup_cons.1 hn).1 (e ▸ hj)
      obtain ⟨h1, rfl⟩ := List.getElem?_eq_some_iff.1 hk
      obtain ⟨h2, rfl⟩ := List.getElem?_eq_some_iff.1 hjd
      rcases Nat.lt_or_gt_of_ne hjk with hl | hg
      · exact (List.pairwise_iff_getElem.1 h.sep j k h2 h1 hl).symm
      · exact List.pairwise_iff_getElem.1 h.sep k j h1 h2 hg

theorem Keep.refl (w : World) (D : List Nat) : Keep ⟨w, D⟩ w := ⟨rfl, rfl, rfl, Nat.le_refl _, fun _ _ _ => rfl⟩
theorem Keep.below {w0 : World} (h : Keep ⟨w0, []⟩ w) : Below w0.heap.size w0 w := ⟨h.os, h.tape, h.output, h.size, fun k hk => h.block k hk (by simp)⟩
theorem Below.keep {w0 : World} (h : Below w0.heap.size w0 w) : Keep ⟨w0, []⟩ w := ⟨h.os, h.tape, h.output, h.size, fun k hk _ => h.block k hk⟩

/-- behind a call that changed at most the blocks of D', all of which are those of chunks that it was handed -/
theorem Mem.call {L1 L2 Lo : List Ck} {D' : List Nat} (h : Mem M (L1 ++ L2) w) (hD : ∀ b ∈ D', ∃ c ∈ L1, c.mut_ = true ∧ c.on b) (h' : Mem ⟨w, D'⟩ Lo w') (hlo : Lo.all Ck.mut_ = true) : Mem M (Lo ++ L2) w' := by
  have hlo : ∀ c ∈ Lo, c.mut_ = true := List.all_eq_true.1 hlo
  have hsep := List.pairwise_append.1 h.sep
  have away : ∀ c ∈ L2, ∀ b, c.on b → b ∉ D' := by
    intro c hc b hb hd
    obtain ⟨d, hd, hdm, hdb⟩ := hD b hd
    exact hsep.2.2 d hd c hc (.inl hdm) b hdb hb
  refine ⟨⟨h'.keep.os.trans h.keep.os, h'.keep.tape.trans h.keep.tape, h'.keep.output.trans h.keep.output, Nat.le_trans h.keep.size h'.keep.size, fun k hk hd => ?_⟩, ?_, ?_, ?_⟩
  · rw [h'.keep.block k (Nat.lt_of_lt_of_le hk h.keep.size) (fun hk' => ?_)]
    · exact h.keep.block k hk hd
    · obtain ⟨c, hc, hm, hb⟩ := hD k hk'
      rcases h.out c (List.mem_append_left _ hc) hm k hb with h1 | h1
      · exact hd h1
      · omega
  · intro c hc
    rcases List.mem_append.1 hc with hc | hc
    · exact h'.all c hc
    · have hw := h.all c (List.mem_append_right _ hc)
      exact Ck.stay h'.keep.size (fun b hb => h'.keep.block b (Ck.lt hw hb) (away c hc b hb)) hw
  · intro c hc hm b hb
    rcases List.mem_append.1 hc with hc | hc
    · rcases h'.out c hc hm b hb with h1 | h1
      · obtain ⟨d, hd, hdm, hdb⟩ := hD b h1
        exact h.out d (List.mem_append_left _ hd) hdm b hdb
      · exact .inr (Nat.le_trans h.keep.size h1)
    · exact h.out c (List.mem_append_right _ hc) hm b hb
  · refine List.pairwise_append.2 ⟨h'.sep, hsep.2.1, fun c hc d hd _ b hb hb' => ?_⟩
    rcases h'.out c hc (hlo c hc) b hb with h1 | h1
    · exact away d hd b hb' h1
    · exact absurd (Ck.lt (h.all d (List.mem_append_right _ hd)) hb') (Nat.not_lt.2 h1)
end
end Go.Proofs.YtmochicneilhhaaGreat
