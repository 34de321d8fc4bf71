/- More rules: what an operation that was passed over guards; ways that meet again. More rules: function values. A region that draws its order, where one loud operation (d) may be drawn ahead of another one (c): gone through twice. More rules: slice expressions; a row cut. A region that draws its order, gone through in an order of one's own: first p1, then c, then p2. All of p2 wait for c, and may look at what c has made. A region that draws its order, of which two loud operations (c, d) may come in either order: what stands ahead of both (p1) is gone through once, what is left in two orders (r1: c first, r2: d first). -/
import Derived.Test.YtmochicneilhhaaGreatPSt
namespace Go.Proofs.YtmochicneilhhaaGreat
open Go.RowKit
section
variable {P : Program} {n : Nat} {M : Me} {Q : Post} {t : Fr} {L : List Ck} {ops : Array Oper} {s : Way} {i : Nat} {rest : List Oper}
/-- the guard itself was passed over -/
theorem lx_notu {o : Oper} {d j g : Nat} {want : Bool} (hg : o.guard = some (j, want)) (hj : (ops[j]?).bind (·.dst) = some g) (hu : lk t g = some (none, undef)) (hd : o.dst = some d) (hn : Nat.blt d n = true)
    (h : LX P n M ops s (i + 1) rest Q ((d, none, undef) :: t) L) : LX P n M ops s i (o :: rest) Q t L := fun hs a w hf hm => by
  have hw : Region.wanted o (yielded ops a.tmps) = false := by
    have hy : yielded ops a.tmps j = none := by
      unfold yielded
      simp only [hj, Option.bind_some, hf.slot g none _ hu]
      rfl
    unfold Region.wanted
    simp only [hg, hy]
    rfl
  have hx := h hs _ w (hf.put (Nat.le_of_ble_eq_true hn) none undef) hm
  cases s with
  | seq =>
    refine wpList_step fun K hK => ?_
    rw [if_neg (by rw [hw]; simp), hd]
    exact hK _ _ hx
  | any E L0 => exact ser_unwanted hw (by rw [hd]; exact hx)
/-- ways that meet again: as 'cx_seq_to', where the sequence has been entered -/
theorem cx_to {x y : Code} {α : Type} (S : α → Fr) (m : α → List Ck) (h : CX P n M x (thenQ (fun t' L' => ∃ z, Sub (S z) t' ∧ Gives L' (m z)) Q) t L) (hy : ∀ z, CX P n M y Q (S z) (m z)) : CX P n M x (thenQ (fun t' L' => CX P n M y Q t' L') Q) t L := by
  refine cx_mono (fun e t' L' hq => ?_) h
  cases e <;> first
    | exact hq
    | (obtain ⟨z, hs, hg⟩ := hq
       exact cx_weak (fun a hf => hs.frm hf) hg (hy z))
end
end Go.Proofs.YtmochicneilhhaaGreat
namespace Go.Proofs.YtmochicneilhhaaGreat
open Go.RowKit
section
variable {P : Program} {n : Nat} {M : Me} {Q : Post} {t : Fr} {L : List Ck} {ops : Array Oper} {s : Way} {i : Nat} {rest : List Oper}
/-- a function value -/
theorem yl_makeFunc {p : Option Bool} {dst : Option Tmp} {f : FuncId} {first captured : Array Operand} {ty : TypeId} {pos : String} {after : Array Edge} {guard : Option (Nat × Bool)} {vs us : List Value} (h1 : o2l t first.toList = some vs) (h2 : o2l t captured.toList = some us) (hi1 : Imps p t first.toList) (hi2 : Imps p t captured.toList) :
    Yl P n t L p ⟨dst, .makeFunc (.func f) first captured, ty, pos, after, guard⟩ (.func (.func f) vs.toArray us.toArray) := fun hp M a w hf hm => by
  have e1 : first.map a.eval = vs.toArray := by
    apply Array.ext'
    have := o2l_eval hf hp h1 hi1
    simpa using this
  have e2 : captured.map a.eval = us.toArray := by
    apply Array.ext'
    have := o2l_eval hf hp h2 hi2
    simpa using this
  unfold execOp
  refine run_v ?_
  rw [e1, e2]
  rfl
end
end Go.Proofs.YtmochicneilhhaaGreat
namespace Go.Proofs.YtmochicneilhhaaGreat
open Go.RowKit
section
variable {P : Program} {ops : Array Oper} {Q : Exit → Act → World → Prop} {S : World → Prop} {E : List Nat} {c d : Nat}
theorem unlisted_iff {listed : Array Bool} (hsz : listed.size = ops.size) {j : Nat} (hj : j < ops.size) : (listed.getD j true = false ↔ ¬ listed.getD j false = true) := by
  have : j < listed.size := by omega
  simp [Array.getD_eq_getD_getElem?, this]
theorem mem_inb {listed : Array Bool} (hsz : listed.size = ops.size) {j : Nat} (h : listed.getD j true = false) : j < ops.size := by
  rcases Nat.lt_or_ge j ops.size with h' | h'
  · exact h'
  · rw [Array.getD_eq_getD_getElem?, Array.getElem?_eq_none (by omega)] at h
    cases h
theorem setD {listed : Array Bool} (hsz : listed.size = ops.size) {i : Nat} (hin : i < ops.size) (j : Nat) : (listed.setIfInBounds i true).getD j true = if j = i then true else listed.getD j true := by
  by_cases hji : j = i
  · subst hji; simp [Array.getD_eq_getD_getElem?, hsz, hin]
  · rw [if_neg hji, getD_set_ne true (Ne.symm hji)]
/-- a list of operations in another order -/
theorem wpSer_perm {E' : List Nat} : ∀ (l : List Oper) (is : List Nat) (i : Nat), l.length = is.length → (∀ (k : Nat) (j : Nat), is[k]? = some j → l[k]? = ops[j]? ∧ (E'.contains (i + k) = true → E.contains j = true)) → ∀ a w, S w → wpSer P ops Q S E' i l a w → wpIdx P ops Q S E is a w
  | [], [], _, _, _, _, _, _, h => h
  | o :: l, j :: is, i, hl, hk, a, w, hS, h => by
    obtain ⟨h0, h1⟩ := hk 0 j rfl
    have hk' : ∀ (k : Nat) (j : Nat), is[k]? = some j → l[k]? = ops[j]? ∧ (E'.contains (i + 1 + k) = true → E.contains j = true) := fun k j hj => by
      have := hk (k + 1) j (by simpa using hj)
      simpa [Nat.add_assoc, Nat.add_comm 1 k] using this
    show stepI P ops Q S E j (wpIdx P ops Q S E is) a w
    refine ⟨o, by simpa using h0.symm, ?_⟩
    rcases h with ⟨v, hy, h⟩ | ⟨he, hw, h⟩
    · exact .inl ⟨v, hy, wpSer_perm l is (i + 1) (by simpa using hl) hk' _ _ hS h⟩
    · exact .inr ⟨h1 (by simpa using he), hw, Oper.wp_mono (fun a' w' hk => ⟨hk.1, wpSer_perm l is (i + 1) (by simpa using hl) hk' a' w' hk.1 hk.2⟩) h⟩
theorem range_split {n d : Nat} (h : d < n) : List.range' 0 n = List.range' 0 d ++ d :: List.range' (d + 1) (n - (d + 1)) := by
  have e : n = d + ((n - (d + 1)) + 1) := by omega
  conv => lhs; rw [e, ← List.range'_append_1, Nat.zero_add, List.range'_succ]
end
section
variable {P : Program} {n : Nat} {M : Me} {Q : Post} {t : Fr} {L : List Ck}
end
end Go.Proofs.YtmochicneilhhaaGreat
namespace Go.Proofs.YtmochicneilhhaaGreat
open Go.RowKit
/-- where a slice that was cut begins -/
def cutA (A : Option Addr) (c l size : Nat) : Option Addr := if c = l then A else A.map (·.add (l * size))
/-- elements lo up to hi of a row -/
def cutL (xs : List Value) (lo hi sz : Nat) : List Value := (xs.drop (lo * sz)).take ((hi - lo) * sz)
theorem cutL_len {xs : List Value} {m lo hi sz : Nat} (hl : xs.length = m * sz) (h1 : lo ≤ hi) (h2 : hi ≤ m) : (cutL xs lo hi sz).length = (hi - lo) * sz := by
  have h3 := Nat.mul_le_mul_right sz h1
  have h4 := Nat.mul_le_mul_right sz h2
  rw [cutL, List.length_take, List.length_drop, hl, Nat.sub_mul]
  omega
theorem Row.cut {w : World} {B sz m c lo hi : Nat} {A : Option Addr} {xs : List Value} (h : Row w B sz A m xs) (h1 : lo ≤ hi) (h2 : hi ≤ m) (hc : m ≤ c) : Row w B sz (cutA A c lo sz) (hi - lo) (cutL xs lo hi sz) := by
  refine ⟨cutL_len h.1 h1 h2, fun hn => ?_⟩
  obtain ⟨b, off, rfl, hb, hcell⟩ := h.2 (by omega)
  refine ⟨b, off + lo * sz, ?_, hb, fun j u hu => ?_⟩
  · rw [cutA, if_neg (by omega), Option.map_some, add_at]
  · rw [cutL, List.getElem?_take] at hu
    split at hu
    · rw [List.getElem?_drop] at hu
      rw [Nat.add_assoc]
      exact hcell _ u hu
    · cases hu
section
variable {P : Program} {n : Nat} {M : Me} {Q : Post} {t : Fr} {L : List Ck} {ops : Array Oper} {s : Way} {i : Nat} {rest : List Oper}
theorem yl_slice {E : Env P} {p c1 c2 c3 : Option Bool} {dst : Option Tmp} {T : TypeId} {x y z : Operand} {ty : TypeId} {pos : String} {after : Array Edge} {guard : Option (Nat × Bool)} {A : Option Addr} {m c : Nat} {κ1 κ2 : IntKind} {lo hi : Int} {e : TypeId} {j : TyI}
    (hx : ov t x = some (c1, .slice A m c)) (hy : ov t y = some (c2, .int κ1 lo)) (hz : ov t z = some (c3, .int κ2 hi)) (hT : tyOf E.f T = .slice e) (he : E.f e = some j)
    (h1 : cb p = true → cb c1 = true) (h2 : cb p = true → cb c2 = true) (h3 : cb p = true → cb c3 = true) (hb : cb p = true → 0 ≤ lo ∧ lo ≤ hi ∧ hi ≤ c) :
    Yl P n t L p ⟨dst, .slice T x (some y) (some z) none, ty, pos, after, guard⟩ (.slice (cutA A c lo.toNat j.size) (hi.toNat - lo.toNat) (c - lo.toNat)) := fun hp M a w hf hm => by
  have hu := run_underlying (P := P) (tyOf_slice hT) w
  have hs := E.size he w
  obtain ⟨hb1, hb2, hb3⟩ := hb hp
  have k1 : 0 ≤ hi ∧ hi ≤ (c : Int) := ⟨by omega, hb3⟩
  have k2 : 0 ≤ lo ∧ lo ≤ (hi.toNat : Int) := ⟨hb1, by omega⟩
  unfold execOp
  refine run_v ?_
  simp [hf.ov hx (h1 hp), hf.ov hy (h2 hp), hf.ov hz (h3 hp), Instr.sliceAt, Instr.slice, Instr.sliceBounds, Instr.sliceBound, asIntOf, hu, k1, k2, hs, cutA]
  exact fun h => absurd h (by omega)
/-- from the beginning on -/
theorem yl_sliceH {E : Env P} {p c1 c3 : Option Bool} {dst : Option Tmp} {T : TypeId} {x z : Operand} {ty : TypeId} {pos : String} {after : Array Edge} {guard : Option (Nat × Bool)} {A : Option Addr} {m c : Nat} {κ2 : IntKind} {hi : Int} {e : TypeId} {j : TyI}
    (hx : ov t x = some (c1, .slice A m c)) (hz : ov t z = some (c3, .int κ2 hi)) (hT : tyOf E.f T = .slice e) (he : E.f e = some j)
    (h1 : cb p = true → cb c1 = true) (h3 : cb p = true → cb c3 = true) (hb : cb p = true → 0 ≤ hi ∧ hi ≤ c) :
    Yl P n t L p ⟨dst, .slice T x none (some z) none, ty, pos, after, guard⟩ (.slice A hi.toNat c) := fun hp M a w hf hm => by
  have hu := run_underlying (P := P) (tyOf_slice hT) w
  have hs := E.size he w
  have k1 := hb hp
  have ha : ∀ a : Addr, a.add 0 = a := fun _ => rfl
  unfold execOp
  refine run_v ?_
  simp [hf.ov hx (h1 hp), hf.ov hz (h3 hp), Instr.sliceAt, Instr.slice, Instr.sliceBounds, Instr.sliceBound, asIntOf, hu, k1, hs, ha]
/-- up to the end -/
theorem yl_sliceL {E : Env P} {p c1 c2 : Option Bool} {dst : Option Tmp} {T : TypeId} {x y : Operand} {ty : TypeId} {pos : String} {after : Array Edge} {guard : Option (Nat × Bool)} {A : Option Addr} {m c : Nat} {κ1 : IntKind} {lo : Int} {e : TypeId} {j : TyI}
    (hx : ov t x = some (c1, .slice A m c)) (hy : ov t y = some (c2, .int κ1 lo)) (hT : tyOf E.f T = .slice e) (he : E.f e = some j)
    (h1 : cb p = true → cb c1 = true) (h2 : cb p = true → cb c2 = true) (hb : cb p = true → 0 ≤ lo ∧ lo ≤ m) :
    Yl P n t L p ⟨dst, .slice T x (some y) none none, ty, pos, after, guard⟩ (.slice (cutA A c lo.toNat j.size) (m - lo.toNat) (c - lo.toNat)) := fun hp M a w hf hm => by
  have hu := run_underlying (P := P) (tyOf_slice hT) w
  have hs := E.size he w
  have k2 := hb hp
  unfold execOp
  refine run_v ?_
  simp [hf.ov hx (h1 hp), hf.ov hy (h2 hp), Instr.sliceAt, Instr.slice, Instr.sliceBounds, Instr.sliceBound, asIntOf, hu, k2, hs, cutA]
/-- what is read of a chunk that is read, as a chunk of its own -/
theorem Gives.add (k : Nat) {d d' : Ck} (hk : L[k]? = some d) (hd : d.mut_ = false) (hd' : d'.mut_ = false) (hg : ∀ w, d.holds w → d'.holds w ∧ ∀ b, d'.on b → d.on b) : Gives L (d' :: L) := fun M w h => by
  have hw := hg w (h.get hk)
  have hmem : d ∈ L := List.mem_of_getElem? hk
  refine ⟨h.keep, fun x hx => ?_, fun x hx hm b hb => ?_, List.Pairwise.cons (fun x hx hm b hb hb' => ?_) h.sep⟩
  · rcases List.mem_cons.1 hx with rfl | hx
    · exact hw.1
    · exact h.all x hx
  · rcases List.mem_cons.1 hx with rfl | hx
    · rw [hd'] at hm; cases hm
    · exact h.out x hx hm b hb
  · have hxm : x.mut_ = true := by
      rcases hm with hm | hm
      · rw [hd'] at hm; cases hm
      · exact hm
    obtain ⟨q, hql, hqe⟩ := List.getElem_of_mem hx
    obtain ⟨q1, hql1, hqe1⟩ := List.getElem_of_mem hmem
    have hne : q ≠ q1 := by
      intro e
      subst e
      rw [hqe] at hqe1
      rw [hqe1, hd] at hxm
      cases hxm
    rcases Nat.lt_or_gt_of_ne hne with hl | hg
    · have := List.pairwise_iff_getElem.1 h.sep q q1 hql hql1 hl
      rw [hqe, hqe1] at this
      exact this.symm (.inr hxm) b (hw.2 b hb) hb'
    · have := List.pairwise_iff_getElem.1 h.sep q1 q hql1 hql hg
      rw [hqe, hqe1] at this
      exact this (.inr hxm) b (hw.2 b hb) hb'
/-- a cut of a row that is read, as a row of its own -/
theorem Gives.cut (k : Nat) {A : Option Addr} {m c sz lo hi : Nat} {xs : List Value} (hk : L[k]? = some (.ro A m sz xs)) (h1 : lo ≤ hi) (h2 : hi ≤ m) (hc : m ≤ c) : Gives L (.ro (cutA A c lo sz) (hi - lo) sz (cutL xs lo hi sz) :: L) :=
  Gives.add k hk rfl rfl fun w hr => ⟨Row.cut hr h1 h2 hc, fun b hb => by
    obtain ⟨hq, hb⟩ := hb
    obtain ⟨b0, off, rfl, _, _⟩ := hr.2 (by omega)
    rw [cutA, if_neg (by omega), Option.map_some, add_at] at hb
    exact ⟨by omega, hb⟩⟩
/-- what is known more, in the midst of a list of operations -/
theorem lx_more {L' : List Ck} (hg : Gives L L') (hb : Gives L' L) (h : LX P n M ops s i rest Q t L') : LX P n M ops s i rest Q t L := fun hs a w hf hm => h (hs.more hb) a w hf (hg M w hm)
/-- an own row, read from now on alone -/
theorem Gives.ownro {L : List Ck} (k : Nat) {A : Option Addr} {m c : Nat} {T : TypeId} {sz : Nat} {xs : List Value} (hk : L[k]? = some (.own A m c T sz xs)) : Gives L (L.set k (.ro A m sz xs)) := fun M w h => by
  have hkl : k < L.length := (List.getElem?_eq_some_iff.1 hk).1
  have hkc : L[k] = .own A m c T sz xs := (List.getElem?_eq_some_iff.1 hk).2
  refine h.turn (c' := .ro A m sz xs) hk rfl (fun b hb => .inl ?_) rfl rfl rfl (Nat.le_refl _) (fun _ _ _ => rfl) (row_own k hk h)
  exact hb.2
theorem Gives.blkro {L : List Ck} (k : Nat) {b m sz : Nat} {T : TypeId} {cs : List Value} (hk : L[k]? = some (.blk b cs T)) (hl : cs.length = m * sz) : Gives L (L.set k (.ro (some ⟨b, 0, none⟩) m sz cs)) := fun M w h => by
  refine h.turn (c' := .ro (some ⟨b, 0, none⟩) m sz cs) hk rfl (fun g hg => .inl ?_) rfl rfl rfl (Nat.le_refl _) (fun _ _ _ => rfl) (row_blk k hk hl h)
  exact Option.some.inj hg.2
/-- one that only looks, but at what others change: in its turn -/
theorem lx_val {o : Oper} {d : Nat} {p : Option Bool} {v : Value} (hl : s.loud i = true) (hg : gOf ops t o = some p) (hp : cb p = true) (hd : o.dst = some d) (hn : Nat.blt d n = true) (hy : Yl P n t L p o v)
    (h : LX P n M ops s (i + 1) rest Q ((d, none, v) :: t) L) : LX P n M ops s i (o :: rest) Q t L :=
  lx_loud hl hg hp fun a w hf hm hs K hK => by
    unfold Oper.wp
    rw [hy hp M a w hf hm]
    show K (a.put o.dst v) w
    rw [hd]
    exact hK _ _ _ _ (hf.put1 (Nat.le_of_ble_eq_true hn) v) hm hs h
/-- an element's place, where the slice's own is known -/
theorem yl_indexS {E : Env P} {p c1 c2 : Option Bool} {dst : Option Tmp} {T : TypeId} {x y : Operand} {ty : TypeId} {pos : String} {after : Array Edge} {guard : Option (Nat × Bool)} {ad : Addr} {m c : Nat} {κ : IntKind} {iv : Int} {e : TypeId} {j : TyI}
    (hx : ov t x = some (c1, .slice (some ad) m c)) (hy : ov t y = some (c2, .int κ iv)) (hT : tyOf E.f T = .slice e) (he : E.f e = some j)
    (h1 : cb p = true → cb c1 = true) (h2 : cb p = true → cb c2 = true) (hb : cb p = true → 0 ≤ iv ∧ iv < m) : Yl P n t L p ⟨dst, .indexAddr T x y, ty, pos, after, guard⟩ (atI (some ad) (mulI iv.toNat j.size)) := fun hp M a w hf hm => by
  have hu := run_underlying (P := P) (tyOf_slice hT) w
  have hs := E.size he w
  obtain ⟨hb1, hb2⟩ := hb hp
  unfold execOp
  refine run_v ?_
  rw [hf.ov hx (h1 hp), hf.ov hy (h2 hp)]
  simp [Instr.indexAt, asIntOf, hu, hb1, hb2, hs, atI, mulI_eq]
end
end Go.Proofs.YtmochicneilhhaaGreat
namespace Go.Proofs.YtmochicneilhhaaGreat
open Go.RowKit
section
variable {P : Program} {ops : Array Oper} {Q Q' : Exit → Act → World → Prop} {S S1 : World → Prop} {E : List Nat} {c : Nat} {K0 : Act → World → Prop}
def pairsB (f : Nat → Nat → Bool) : List Nat → Bool
  | [] => true
  | x :: xs => xs.all (f x) && pairsB f xs
theorem pairsB_spec {f : Nat → Nat → Bool} : ∀ {l : List Nat}, pairsB f l = true → l.Pairwise fun j i => f j i = true
  | [], _ => .nil
  | x :: xs, h => by
    simp only [pairsB, Bool.and_eq_true, List.all_eq_true] at h
    exact List.pairwise_cons.2 ⟨h.1, pairsB_spec h.2⟩
structure OkP (ops : Array Oper) (E : List Nat) (j i : Nat) : Prop where
  ne : j ≠ i
  ap : ∀ oi oj, ops[i]? = some oi → ops[j]? = some oj → j ∈ onOf ops i ∨ oj.apart ops oi = true
  chain : E.contains i = true → E.contains j = true → j ∈ downs ops i (onOf ops i)
def wpK (P : Program) (ops : Array Oper) (Q : Exit → Act → World → Prop) (S : World → Prop) (E : List Nat) (K0 : Act → World → Prop) : List Nat → Act → World → Prop
  | [], a, w => K0 a w
  | i :: l, a, w => stepI P ops Q S E i (wpK P ops Q S E K0 l) a w
theorem wpK_front {i : Nat} {oi : Oper} (hi : ops[i]? = some oi) (hsel : ∀ (j : Nat) (o : Oper) cs b, ops[j]? = some o → o.op ≠ .select cs b) (hQ : NoDeath Q) (l2 : List Nat) :
    ∀ (l1 : List Nat), (∀ j ∈ l1, ∃ oj, ops[j]? = some oj ∧ oj.apart ops oi = true ∧ ¬ (E.contains i = true ∧ E.contains j = true)) →
      ∀ a w, S w → wpK P ops Q S E K0 (l1 ++ i :: l2) a w → wpK P ops Q S E K0 (i :: (l1 ++ l2)) a w
  | [], _, _, _, _, h => h
  | j :: l1, hl, a, w, hS, h => by
    obtain ⟨oj, hj, hap, hE⟩ := hl j (List.mem_cons_self ..)
    have h' : stepI P ops Q S E j (stepI P ops Q S E i (wpK P ops Q S E K0 (l1 ++ l2))) a w :=
      stepI_mono (fun a' w' hs hk => wpK_front hi hsel hQ l2 l1 (fun k hk => hl k (List.mem_cons_of_mem _ hk)) a' w' hs hk) hS h
    exact stepI_swap hi hj hap (hsel i oi · · hi) (hsel j oj · · hj) hQ hE h'
theorem YieldsIf.less {o : Oper} {v : Value} {a : Act} (h : ∀ w, S1 w → S w) (hy : YieldsIf P ops S o v a) : YieldsIf P ops S1 o v a := by
  rcases hy with ⟨hw, hv⟩ | h2
  · exact .inl ⟨hw, fun w hs => hv w (h w hs)⟩
  · exact .inr h2
theorem least : ∀ (l : List Nat), l ≠ [] → ∃ x ∈ l, ∀ y ∈ l, x ≤ y
  | [], h => absurd rfl h
  | [x], _ => ⟨x, by simp, by simp⟩
  | x :: y :: l, _ => by
    obtain ⟨z, hz, hle⟩ := least (y :: l) (by simp)
    rcases Nat.le_total x z with h | h
    · exact ⟨x, by simp, fun u hu => by
        rcases List.mem_cons.1 hu with rfl | hu
        · exact Nat.le_refl _
        · exact Nat.le_trans h (hle u hu)⟩
    · exact ⟨z, List.mem_cons_of_mem _ hz, fun u hu => by
        rcases List.mem_cons.1 hu with rfl | hu
        · exact h
        · exact hle u hu⟩
theorem ready_any (hback : ∀ i, i < ops.size → ∀ j ∈ onOf ops i, j < i) {l : List Nat} {listed : Array Bool} (hne : l ≠ []) (hm : ∀ j, j ∈ l ↔ listed.getD j true = false) (hsz : listed.size = ops.size) : Region.ready .any ops listed ≠ [] := by
  intro hr
  obtain ⟨x, hxl, hle⟩ := least l hne
  have hun := (hm x).1 hxl
  have hxn := mem_inb hsz hun
  have hx : x ∈ Region.ready .any ops listed := by
    refine mem_ready.2 ⟨hun, ops[x], by simp [hxn], fun e he hb => ?_⟩
    have hon : e.on ∈ onOf ops x := (mem_onOf (by simp [hxn])).2 ⟨e, he, hb, rfl⟩
    have hlt := hback x hxn e.on hon
    by_cases hc : listed.getD e.on false = true
    · exact hc
    · have := hle _ ((hm e.on).2 ((unlisted_iff hsz (by omega)).2 hc))
      omega
  rw [hr] at hx
  cases hx
/-- what is kept when number i is drawn -/
theorem keepP {i : Nat} {oi : Oper} {l1 l2 : List Nat} {listed : Array Bool} (hin : i < ops.size) (hp : (l1 ++ i :: l2).Pairwise (OkP ops E)) (hm : ∀ j, j ∈ l1 ++ i :: l2 ↔ listed.getD j true = false) (hsz : listed.size = ops.size)
    (hcl : ∀ k, listed.getD k false = true → ∀ e ∈ onOf ops k, listed.getD e false = true) (hoi : ops[i]? = some oi) (hon : ∀ e ∈ onOf ops i, listed.getD e false = true) :
    (l1 ++ l2).Pairwise (OkP ops E) ∧ (∀ j, j ∈ l1 ++ l2 ↔ (listed.setIfInBounds i true).getD j true = false) ∧ (listed.setIfInBounds i true).size = ops.size ∧
      (∀ k, (listed.setIfInBounds i true).getD k false = true → ∀ e ∈ onOf ops k, (listed.setIfInBounds i true).getD e false = true) ∧
      (∀ j ∈ l1, ∃ oj, ops[j]? = some oj ∧ oj.apart ops oi = true ∧ ¬ (E.contains i = true ∧ E.contains j = true)) := by
  have hno : ∀ j ∈ l1, ¬ listed.getD j false = true := fun j hj => by
    have hjl : j ∈ l1 ++ i :: l2 := List.mem_append_left _ hj
    exact (unlisted_iff hsz (mem_inb hsz ((hm j).1 hjl))).1 ((hm j).1 hjl)
  have hpi : ∀ j ∈ l1, OkP ops E j i := fun j hj => (List.pairwise_append.1 hp).2.2 j hj i (List.mem_cons_self ..)
  have hnd : ∀ j ∈ l1 ++ l2, j ≠ i := by
    intro j hj
    rcases List.mem_append.1 hj with h' | h'
    · exact (hpi j h').ne
    · exact ((List.pairwise_cons.1 (List.pairwise_append.1 hp).2.1).1 j h').ne.symm
  refine ⟨hp.sublist (by simp), fun j => ?_, by simp [hsz], fun k hk' e he => ?_, fun j hj => ?_⟩
  · rw [setD hsz hin]
    have := hm j
    by_cases hji : j = i
    · subst hji
      simp only [if_true, Bool.true_eq_false, iff_false]
      intro h'
      exact hnd _ h' rfl
    · simp only [hji, if_false, ← this, List.mem_append, List.mem_cons, false_or]
  · by_cases hki : k = i
    · subst hki; exact getD_set_true (hon e he)
    · rw [getD_set_ne false (Ne.symm hki)] at hk'
      exact getD_set_true (hcl k hk' e he)
  · have hjn := mem_inb hsz ((hm j).1 (List.mem_append_left _ hj))
    refine ⟨ops[j], by simp [hjn], ?_, ?_⟩
    · rcases (hpi j hj).ap oi ops[j] hoi (by simp [hjn]) with h' | h'
      · exact absurd (hon j h') (hno j hj)
      · exact h'
    · rintro ⟨hei, hej⟩
      exact hno j hj (downs_all (p := fun e => listed.getD e false = true) (fun k hk e he => hcl k hk e he) i _ hon j ((hpi j hj).chain hei hej))
theorem anyP (hsel : ∀ (j : Nat) (o : Oper) cs b, ops[j]? = some o → o.op ≠ .select cs b) (hback : ∀ i, i < ops.size → ∀ j ∈ onOf ops i, j < i) (hQ : NoDeath Q) (h1 : ∀ w, S1 w → S w) : ∀ (fuel : Nat) (l : List Nat) (listed : Array Bool), l.length = fuel → l.Pairwise (OkP ops E) → (∀ j, j ∈ l ↔ listed.getD j true = false) → listed.size = ops.size →
    (∀ k, listed.getD k false = true → ∀ e ∈ onOf ops k, listed.getD e false = true) → ∀ a w, S1 w → wpIdx P ops Q S1 E l a w → wpAnyH P .any ops Q S fuel listed a w := by
  intro fuel
  induction fuel with
  | zero =>
    intro l listed hl _ hm _ _ a w _ h
    obtain rfl : l = [] := List.eq_nil_of_length_eq_zero hl
    refine ⟨?_, h⟩
    rw [List.eq_nil_iff_forall_not_mem]
    intro j hj
    exact absurd ((hm j).2 (mem_ready.1 hj).1) (by simp)
  | succ fuel ih =>
    intro l listed hl hp hm hsz hcl a w hS h
    refine ⟨fun hr => absurd hr (ready_any hback (by intro he; rw [he] at hl; cases hl) hm hsz), fun i hi => ?_⟩
    obtain ⟨hun, oi, hoi, hall⟩ := mem_ready.1 hi
    have hin := mem_inb hsz hun
    obtain ⟨l1, l2, rfl⟩ := List.append_of_mem ((hm i).2 hun)
    have hon : ∀ e ∈ onOf ops i, listed.getD e false = true := fun e he => by
      obtain ⟨x, hx, hb, rfl⟩ := (mem_onOf hoi).1 he
      exact hall x hx hb
    obtain ⟨k1, k2, k3, k4, k5⟩ := keepP hin hp hm hsz hcl hoi hon
    refine wpOp_mono (fun a' w' hk => ⟨h1 _ hk.1, ?_⟩) (stepI_wpOp hS (wpIdx_front hoi hsel hQ l2 l1 k5 a w hS h))
    exact ih (l1 ++ l2) _ (by simp at hl ⊢; omega) k1 k2 k3 k4 a' w' hk.1 hk.2
theorem wp_Q {o : Oper} {a : Act} {w : World} {K : Act → World → Prop} (hQ : NoDeath Q') (hh : o.wp P a w K Q') : o.wp P a w K Q := by
  unfold Oper.wp at *
  generalize (execOp a.eval o).run P w = r at *
  cases r with
  | ok n w' =>
    cases n <;> simp only [Oper.upon] at hh ⊢
    case value u => exact hh
    case skip => exact hh
    case defer d => exact hh
    case enter f args =>
      refine Calls.mono hh fun e w'' he => ?_
      cases e with
      | returned u => exact he
      | panicked c => exact absurd he (hQ.1 _ _ _)
      | outgrown => obtain ⟨a₀, w₀, hq⟩ := he; exact absurd hq (hQ.2 _ _)
    case row row args => exact hh
  | halt x w' =>
    cases x <;> simp only [Oper.upon] at hh ⊢
    case panic u => exact absurd hh (hQ.1 _ _ _)
theorem wpSerK {E' : List Nat} (hQ : NoDeath Q') (hn : ∀ a w, S w → Q' .normal a w → K0 a w) : ∀ (l : List Oper) (is : List Nat) (i : Nat), l.length = is.length → (∀ (k : Nat) (j : Nat), is[k]? = some j → l[k]? = ops[j]? ∧ (E'.contains (i + k) = true → E.contains j = true)) → ∀ a w, S w → wpSer P ops Q' S E' i l a w → wpK P ops Q S E K0 is a w
  | [], [], _, _, _, a, w, hS, h => hn a w hS h
  | o :: l, j :: is, i, hl, hk, a, w, hS, h => by
    obtain ⟨h0, h1⟩ := hk 0 j rfl
    have hk' : ∀ (k : Nat) (j : Nat), is[k]? = some j → l[k]? = ops[j]? ∧ (E'.contains (i + 1 + k) = true → E.contains j = true) := fun k j hj => by
      have := hk (k + 1) j (by simpa using hj)
      simpa [Nat.add_assoc, Nat.add_comm 1 k] using this
    show stepI P ops Q S E j (wpK P ops Q S E K0 is) a w
    refine ⟨o, by simpa using h0.symm, ?_⟩
    rcases h with ⟨v, hy, h⟩ | ⟨he, hw, h⟩
    · exact .inl ⟨v, hy, wpSerK hQ hn l is (i + 1) (by simpa using hl) hk' _ _ hS h⟩
    · exact .inr ⟨h1 (by simpa using he), hw, Oper.wp_mono (fun a' w' hk => ⟨hk.1, wpSerK hQ hn l is (i + 1) (by simpa using hl) hk' a' w' hk.1 hk.2⟩) (wp_Q hQ h)⟩
/-- the operations of these numbers -/
def pickO (l : List Oper) : List Nat → List Oper
  | [] => []
  | j :: js => match l.drop j with
    | o :: _ => o :: pickO l js
    | [] => []
def pickOB (m : Nat) (E E' is : List Nat) : Bool := is.all (fun j => decide (j < m)) && (List.range is.length).all fun k => !E'.contains k || match is[k]? with
  | some j => E.contains j
  | none => true
theorem pickO_spec {l : List Oper} : ∀ (is : List Nat), (∀ j ∈ is, j < l.length) → (pickO l is).length = is.length ∧ ∀ (k j : Nat), is[k]? = some j → (pickO l is)[k]? = l.toArray[j]?
  | [], _ => ⟨rfl, fun k j h => by cases h⟩
  | j :: js, h => by
    obtain ⟨h1, h2⟩ := pickO_spec (l := l) js fun k hk => h k (List.mem_cons_of_mem _ hk)
    have hj := h j (List.mem_cons_self ..)
    have e : l.drop j = l[j] :: l.drop (j + 1) := List.drop_eq_getElem_cons hj
    have e' : pickO l (j :: js) = l[j] :: pickO l js := by rw [pickO, e]
    rw [e']
    refine ⟨by simp [h1], fun k x hk => ?_⟩
    cases k with
    | zero =>
      simp at hk
      subst hk
      simp [hj]
    | succ k => simpa using h2 k x (by simpa using hk)
theorem pick_ok {l : List Oper} {E' is : List Nat} (h : pickOB l.length E E' is = true) : (pickO l is).length = is.length ∧ ∀ (k j : Nat), is[k]? = some j → (pickO l is)[k]? = l.toArray[j]? ∧ (E'.contains (0 + k) = true → E.contains j = true) := by
  simp only [pickOB, Bool.and_eq_true, List.all_eq_true, decide_eq_true_eq, List.mem_range, Bool.or_eq_true, Bool.not_eq_true'] at h
  obtain ⟨h1, h2⟩ := pickO_spec is h.1
  refine ⟨h1, fun k j hk => ⟨h2 k j hk, fun he => ?_⟩⟩
  have := h.2 k (List.getElem?_eq_some_iff.1 hk).1
  rw [hk] at this
  rw [Nat.zero_add] at he
  rw [he] at this
  simpa using this
end
section
variable {P : Program} {n : Nat} {M : Me} {Q : Post} {t : Fr} {L : List Ck}
end
end Go.Proofs.YtmochicneilhhaaGreat
namespace Go.Proofs.YtmochicneilhhaaGreat
open Go.RowKit
section
variable {P : Program} {ops : Array Oper} {Q Q' : Exit → Act → World → Prop} {S S1 : World → Prop} {E : List Nat} {K0 : Act → World → Prop}
theorem wpK_mono {K K' : Act → World → Prop} (h : ∀ a w, S w → K a w → K' a w) : ∀ (l : List Nat) (a : Act) (w : World), S w → wpK P ops Q S E K l a w → wpK P ops Q S E K' l a w
  | [], a, w, hS, hk => h a w hS hk
  | _ :: l, _, _, hS, hk => stepI_mono (fun a' w' hs hk => wpK_mono h l a' w' hs hk) hS hk
theorem wpK_app {l2 : List Nat} : ∀ (l : List Nat) (a : Act) (w : World), wpK P ops Q S E (wpK P ops Q S E K0 l2) l a w → wpK P ops Q S E K0 (l ++ l2) a w
  | [], _, _, h => h
  | i :: l, a, w, h => by
    obtain ⟨o, ho, h⟩ := h
    refine ⟨o, ho, ?_⟩
    rcases h with ⟨v, hy, h⟩ | ⟨he, hw, h⟩
    · exact .inl ⟨v, hy, wpK_app l _ _ h⟩
    · exact .inr ⟨he, hw, Oper.wp_mono (fun a' w' hk => ⟨hk.1, wpK_app l a' w' hk.2⟩) h⟩
theorem wpK_idx {r : List Nat} : ∀ (l : List Nat) (a : Act) (w : World), wpK P ops Q S E (wpIdx P ops Q S E r) l a w → wpIdx P ops Q S E (l ++ r) a w
  | [], _, _, h => h
  | i :: l, a, w, h => by
    obtain ⟨o, ho, h⟩ := h
    refine ⟨o, ho, ?_⟩
    rcases h with ⟨v, hy, h⟩ | ⟨he, hw, h⟩
    · exact .inl ⟨v, hy, wpK_idx l _ _ h⟩
    · exact .inr ⟨he, hw, Oper.wp_mono (fun a' w' hk => ⟨hk.1, wpK_idx l a' w' hk.2⟩) h⟩
/-- two ways behind one quiet operation -/
theorem stepI_both {i : Nat} {K K' : Act → World → Prop} {a : Act} {w : World} (hS : S w) (hq : ¬ E.contains i = true) (h : stepI P ops Q S E i K a w) (h' : stepI P ops Q S E i K' a w) : stepI P ops Q S E i (fun a w => K a w ∧ K' a w) a w := by
  obtain ⟨o, ho, h⟩ := h
  obtain ⟨o', ho', h'⟩ := h'
  obtain rfl : o = o' := Option.some.inj (ho.symm.trans ho')
  rcases h with ⟨v, hy, h⟩ | ⟨he, _⟩
  · rcases h' with ⟨v', hy', h'⟩ | ⟨he, _⟩
    · obtain rfl := YieldsIf.one hS hy hy'
      exact ⟨o, ho, .inl ⟨v, hy, h, h'⟩⟩
    · exact absurd he hq
  · exact absurd he hq
end
section
variable {P : Program} {n : Nat} {M : Me} {Q : Post} {t : Fr} {L : List Ck}
end
end Go.Proofs.YtmochicneilhhaaGreat
