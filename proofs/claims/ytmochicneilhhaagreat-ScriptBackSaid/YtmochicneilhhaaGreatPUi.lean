/- What the reading of an argument tells: its cells, by the type's shape. scripts: ScriptFrames, ScriptReads. scripts: the reference's bytes of a step. scripts: the reference's Write. scripts: what is read, written, and read again: plainly. -/
import Derived.Test.YtmochicneilhhaaGreatPAp
import Derived.Test.YtmochicneilhhaaGreatPBv
import Derived.Test.YtmochicneilhhaaGreatPGo
import Derived.Test.YtmochicneilhhaaGreatPMem
import Derived.Test.YtmochicneilhhaaGreatPTm
import Derived.Test.YtmochicneilhhaaGreatPUc
namespace Go.Proofs.YtmochicneilhhaaGreat
open Go.ChangeShapes Go.WideShapes Go.ChangeAt Go.RowKit Go.Deep
/-- a slice: its value, and what it holds -/
structure Sl (α : Type) where
  A : Option Addr
  n : Nat
  c : Nat
  l : List α
section
variable {H : Type} {enc : TypeId × Value → H} {P : Program} {w : World} {base : Nat} {spare : Nat → Bool} {held : Bool}
/-- whatever is read as of type t is the cells of some x, of which ok holds -/
structure Reads (enc : TypeId × Value → H) (P : Program) (w : World) (base : Nat) (spare : Nat → Bool) (held : Bool) {α : Type} (t : TypeId) (sz : Nat) (cells : α → List Value) (ok : α → Prop) : Prop where
  size : P.cellsOf t = sz
  len : ∀ x, (cells x).length = sz
  read : ∀ n vs y, DataW.trod enc P w base spare held n t vs = some y → ∃ x, vs = cells x ∧ ok x
theorem Reads.map {α β : Type} {t : TypeId} {s : Nat} {c : α → List Value} {ok : α → Prop} (h : Reads enc P w base spare held t s c ok) (g : α → β) {c' : β → List Value} {ok' : β → Prop} (hc : ∀ x, c x = c' (g x)) (hok : ∀ x, ok x → ok' (g x)) (hl : ∀ y, (c' y).length = s) : Reads enc P w base spare held t s c' ok' :=
  ⟨h.size, hl, fun n vs y hy => by
    obtain ⟨x, hx, ho⟩ := h.read n vs y hy
    exact ⟨g x, hx.trans (hc x), hok x ho⟩⟩
theorem wf_of_uk {k : IntKind} {m : Nat} (u : UK k m) (hmin : k.min = 0) (hmax : k.max + 1 = ((2 ^ m : Nat) : Int)) {n : Int} (h : (Lit.int k n).wf = true) : n = ((BitVec.ofInt m n).toNat : Int) := by
  have h1 : k.wrap n = n := by
    simp [Lit.wf] at h
    rw [u.wrap, Int.emod_eq_of_lt] <;> omega
  rw [← u.int, h1]
theorem reads_uk {t : TypeId} {k : IntKind} {m : Nat} (u : UK k m) (hmin : k.min = 0) (hmax : k.max + 1 = ((2 ^ m : Nat) : Int)) (ht : P.underlying t = some (.int k)) (hs : P.cellsOf t = 1) : Reads enc P w base spare held t 1 (fun x : BitVec m => [.int k x.toNat]) (fun _ => True) :=
  ⟨hs, fun _ => rfl, fun n vs y hy => by
    obtain ⟨a, e, _, wa⟩ := DataW.trod_int ht hy
    refine ⟨BitVec.ofInt m a, ?_, trivial⟩
    rw [e, ← wf_of_uk u hmin hmax wa]⟩
theorem reads_u8 {t : TypeId} (ht : P.underlying t = some (.int .u8)) (hs : P.cellsOf t = 1) : Reads enc P w base spare held t 1 (fun x : B8 => [bv x]) (fun _ => True) := reads_uk uk8 rfl rfl ht hs
/-- what is said of a slice -/
def Sl.ok {α : Type} (w : World) (s : Nat) (f : α → List Value) (ok : α → Prop) (r : Sl α) : Prop := Row w w.heap.size s r.A r.n (r.l.flatMap f) ∧ r.l.length = r.n ∧ r.n ≤ r.c ∧ r.c ≤ 9223372036854775807 ∧ ∀ x ∈ r.l, ok x
theorem reads_slice {α : Type} {t e : TypeId} {s : Nat} {f : α → List Value} {ok : α → Prop} (hr : Reads enc P w base spare held e s f ok) (ht : P.underlying t = some (.slice e)) (hs : P.cellsOf t = 1) (hpos : 0 < s) :
    Reads enc P w base spare held t 1 (fun r : Sl α => [.slice r.A r.n r.c]) (Sl.ok w s f ok) :=
  ⟨hs, fun _ => rfl, fun k vs y hy => by
    rcases open_slice ht hy with ⟨h0, _⟩ | ⟨a, len, c, m, n, D, Pl, rfl, hb, hl, hm, hmm, hx, hi⟩
    · exact ⟨⟨none, 0, 0, []⟩, h0, ⟨by simp, fun h => absurd h (Nat.lt_irrefl 0)⟩, rfl, Nat.le_refl _, Nat.zero_le _, by simp⟩
    · unfold maxLen at hm
      have hle : len ≤ m := by rw [hmm]; split <;> omega
      have hp : ∀ j, j ≤ len → ∃ l : List α, l.length = j ∧ (∀ q u, (l.flatMap f)[q]? = some u → w.cell? (a.add q) = some u) ∧ ∀ x ∈ l, ok x := by
        intro j
        induction j with
        | zero => intro _; exact ⟨[], rfl, by simp, by simp⟩
        | succ j ih =>
          intro hj
          obtain ⟨l, e1, e2, e3⟩ := ih (by omega)
          obtain ⟨cs', hc, ht'⟩ := hi j (by omega)
          rw [hr.size] at hc
          obtain ⟨x, rfl, hox⟩ := hr.read _ _ _ ht'
          obtain ⟨_, hcl, hat⟩ := World.cells?_some hc
          refine ⟨l ++ [x], by simp [e1], fun q u hu => ?_, fun y hy => ?_⟩
          · rw [List.flatMap_append, List.getElem?_append] at hu
            have hfl : (l.flatMap f).length = j * s := by rw [flat_len hr.len, e1]
            split at hu
            · exact e2 q u hu
            · rename_i hq
              rw [hfl] at hq hu
              simp only [List.flatMap_cons, List.flatMap_nil, List.append_nil] at hu
              have hlt := (List.getElem?_eq_some_iff.1 hu).1
              rw [hr.len] at hlt
              have := hat _ hlt
              rw [Go.Deep.add_add] at this
              rw [show q = j * s + (q - j * s) by omega, this, hu]
          · rcases List.mem_append.1 hy with hy | hy
            · exact e3 y hy
            · obtain rfl := List.mem_singleton.1 hy; exact hox
      obtain ⟨l, e1, e2, e3⟩ := hp len (Nat.le_refl _)
      refine ⟨⟨some a, len, c, l⟩, rfl, ⟨by rw [flat_len hr.len, e1], fun h0 => ?_⟩, e1, hl, by omega, e3⟩
      have hfl : (l.flatMap f).length = len * s := by rw [flat_len hr.len, e1]
      have h0' : 0 < (l.flatMap f).length := by rw [hfl]; exact Nat.mul_pos h0 hpos
      have c0 := e2 0 _ (List.getElem?_eq_getElem h0')
      have hb := lt_of_cell c0
      obtain ⟨b, off, spot⟩ := a
      have hsp : spot = none := by simpa [Addr.add] using World.cell?_spot c0
      subst hsp
      refine ⟨b, off, rfl, by simpa [Addr.add] using hb, fun q u hu => ?_⟩
      have := e2 q u hu
      rw [add_at] at this
      exact this⟩
/-- arguments -/
theorem arg_cell {α : Type} {t : TypeId} {s : Nat} {c : α → List Value} {ok : α → Prop} {v : Value} {d : DataW H} {p : List MemPlace} (hr : Reads enc P w base spare held t s c ok) (hv : v.cells = #[v]) (h : DataW.Trod enc P w base spare held t v d p) : ∃ x, [v] = c x ∧ ok x := by
  obtain ⟨fuel, hf⟩ := h
  rw [hv] at hf
  exact hr.read _ _ _ hf
theorem one_slice {r : Reach} {b0 : Nat} {t e : TypeId} {v : Value} (ht : P.underlying t = some (.slice e)) (h : Value.okWide P w r b0 t v) : v.cells = #[v] := by obtain ⟨_, _, _, rfl⟩ := okWide_slice ht h; rfl
/-- slices of bytes, and rows of them -/
def u8ok (w : World) (r : Sl B8) : Prop := Row w w.heap.size 1 r.A r.n (bvs r.l) ∧ r.l.length = r.n ∧ r.n ≤ r.c ∧ r.c ≤ 9223372036854775807
theorem flat_bvs (l : List B8) : (l.flatMap fun b => [bv b]) = bvs l := by
  induction l with
  | nil => rfl
  | cons b l ih => rw [List.flatMap_cons, ih]; rfl
theorem reads_bytes {t e : TypeId} (ht : P.underlying t = some (.slice e)) (hs : P.cellsOf t = 1) (he : P.underlying e = some (.int .u8)) (hes : P.cellsOf e = 1) : Reads enc P w base spare held t 1 (fun r : Sl B8 => [.slice r.A r.n r.c]) (u8ok w) :=
  (reads_slice (reads_u8 he hes) ht hs Nat.one_pos).map id (fun _ => rfl) (fun r h => by
    obtain ⟨h1, h2, h3, h4, _⟩ := h
    rw [flat_bvs] at h1
    exact ⟨h1, h2, h3, h4⟩) (fun _ => rfl)
end
end Go.Proofs.YtmochicneilhhaaGreat
namespace Go.Proofs.YtmochicneilhhaaGreat.sc
open Go.RowKit Go.Proofs.YtmochicneilhhaaGreat.kit Go.Proofs.YtmochicneilhhaaGreat.pk Go.Proofs.YtmochicneilhhaaGreat.rq Go.Proofs.YtmochicneilhhaaGreat.ev Go.Proofs.YtmochicneilhhaaGreat.win
section
variable {P : Program} {n : Nat} {M : Me} {Q : Post} {t : Fr} {L : List Ck} {ops : Array Oper} {s : Way} {i : Nat} {rest : List Oper}
end
theorem Gives.mid {c : Ck} {S T : List Ck} : Gives ((c :: S) ++ T) (c :: (T ++ S)) := Gives.perm (show ([c] ++ S ++ T).Perm ([c] ++ (T ++ S)) by rw [List.append_assoc]; exact List.Perm.append_left _ List.perm_append_comm)
theorem Gives.mid2 {c d : Ck} {S T : List Ck} : Gives ((c :: d :: S) ++ T) (c :: d :: (T ++ S)) := Gives.perm (show ([c, d] ++ S ++ T).Perm ([c, d] ++ (T ++ S)) by rw [List.append_assoc]; exact List.Perm.append_left _ List.perm_append_comm)
attribute [local irreducible] LX CX Yl Gives RetIs Fn
attribute [local irreducible] be de fr.frm
end Go.Proofs.YtmochicneilhhaaGreat.sc
namespace Go.Proofs.YtmochicneilhhaaGreat.sc
open Go.RowKit Go.Proofs.YtmochicneilhhaaGreat.kit Go.Proofs.YtmochicneilhhaaGreat.pk Go.Proofs.YtmochicneilhhaaGreat.rq Go.Proofs.YtmochicneilhhaaGreat.ev Go.Proofs.YtmochicneilhhaaGreat.win
theorem Gives.one {L : List Ck} {d : Ck} (h : d ∈ L) : Gives L [d] := by
  obtain ⟨k, hk⟩ := List.getElem?_of_mem h
  exact Gives.pick [k] (List.nodup_cons.2 ⟨List.not_mem_nil, List.nodup_nil⟩) (by unfold pickL; simp [hk])
attribute [local irreducible] LX CX Yl Gives RetIs Fn
attribute [local irreducible] be de fr.frm fr.takeF
end Go.Proofs.YtmochicneilhhaaGreat.sc
namespace Go.Proofs.YtmochicneilhhaaGreat.sc
open Go.RowKit Go.Proofs.YtmochicneilhhaaGreat.kit Go.Proofs.YtmochicneilhhaaGreat.pk Go.Proofs.YtmochicneilhhaaGreat.rq Go.Proofs.YtmochicneilhhaaGreat.ev Go.Proofs.YtmochicneilhhaaGreat.win
attribute [local irreducible] LX CX Yl Gives RetIs Fn
attribute [local irreducible] be de fr.frm fr.takeF
end Go.Proofs.YtmochicneilhhaaGreat.sc
namespace Go.Proofs.YtmochicneilhhaaGreat.sc
open Go.RowKit Go.Proofs.YtmochicneilhhaaGreat.kit Go.Proofs.YtmochicneilhhaaGreat.pk Go.Proofs.YtmochicneilhhaaGreat.rq Go.Proofs.YtmochicneilhhaaGreat.ev Go.Proofs.YtmochicneilhhaaGreat.win
def encS (n : Int) (x : SP) : List B8 := (wstep n ([], false) x).1
def goodS (n : Int) (x : SP) : Prop := (wstep n ([], false) x).2 = false
theorem good_step {n : Int} {x : SP} (h : goodS n x) : (1 ≤ x.k.toNat ∧ x.k.toNat ≤ 7) ∧ (0 ≤ x.cl ∧ x.cl < n) ∧ (x.k = 4#8 → x.op.right = 0) ∧ (x.k ≠ 4#8 → x.op = zeroO) ∧ (x.k ≠ 1#8 → x.bs = []) ∧ (x.k ≠ 6#8 → x.by_ = 0#64) := by
  unfold goodS at h
  obtain ⟨h1, h2, h3⟩ := wstep_good h
  rw [wstep_in _ h1 h2 h3] at h
  unfold blankQ at h3
  have hf : ∀ a : SP, a = x → a.op = x.op ∧ a.bs = x.bs ∧ a.by_ = x.by_ := fun a e => by rw [e]; exact ⟨rfl, rfl, rfl⟩
  have h4 := hf _ h3
  clear hf h3
  by_cases e1 : x.k = 1#8
  · rw [if_pos e1] at h4
    exact ⟨by rw [e1]; decide, ⟨h1, h2⟩, fun e => absurd (e1.symm.trans e) (by decide), fun _ => h4.1.symm, fun e => absurd e1 e, fun _ => h4.2.2.symm⟩
  rw [if_neg e1] at h h4
  by_cases e4 : x.k = 4#8
  · rw [if_neg (by rw [e4]; decide), if_pos e4] at h4
    rw [if_neg (by rw [e4]; decide), if_neg (by rw [e4]; decide), if_pos e4] at h
    have hem := em_op x.op ([], false || x.op.right != 0)
    rw [hem] at h
    dsimp only at h
    refine ⟨by rw [e4]; decide, ⟨h1, h2⟩, fun _ => ?_, fun e => absurd e4 e, fun _ => h4.2.1.symm, fun _ => h4.2.2.symm⟩
    rw [Bool.or_eq_false_iff] at h
    simpa using h.1
  by_cases e6 : x.k = 6#8
  · rw [if_neg (by rw [e6]; decide), if_neg e4, if_pos e6] at h4
    exact ⟨by rw [e6]; decide, ⟨h1, h2⟩, fun e => absurd e e4, fun _ => h4.1.symm, fun _ => h4.2.1.symm, fun e => absurd e6 e⟩
  have h5 : x.op = zeroO ∧ x.bs = [] ∧ x.by_ = 0#64 := by
    rw [if_neg e4, if_neg e6] at h4
    by_cases e2 : x.k = 2#8 ∨ x.k = 3#8
    · rw [if_pos e2] at h4; exact ⟨h4.1.symm, h4.2.1.symm, h4.2.2.symm⟩
    · rw [if_neg e2] at h4; exact ⟨h4.1.symm, h4.2.1.symm, h4.2.2.symm⟩
  refine ⟨?_, ⟨h1, h2⟩, fun e => absurd e e4, fun _ => h5.1, fun _ => h5.2.1, fun _ => h5.2.2⟩
  rw [if_neg e4] at h
  by_cases e2 : x.k = 2#8
  · rw [e2]; decide
  by_cases e3 : x.k = 3#8
  · rw [e3]; decide
  by_cases e5 : x.k = 5#8
  · rw [e5]; decide
  by_cases e7 : x.k = 7#8
  · rw [e7]; decide
  rw [if_neg e2, if_neg e3, if_neg e5, if_neg e7, if_neg e6] at h
  cases h
theorem enc_all {n : Int} : ∀ (ss : List SP) (w : Wt), (∀ x ∈ ss, goodS n x) → ss.foldl (wstep n) w = (w.1 ++ ss.flatMap (encS n), w.2)
  | [], w, _ => by simp
  | x :: ss, w, h => by
    have hx := em_step n x w
    dsimp only at hx
    have hg : (wstep n ([], false) x).2 = false := h x (List.mem_cons_self ..)
    rw [hg, Bool.or_false] at hx
    rw [List.foldl_cons, hx, enc_all ss _ fun y hy => h y (List.mem_cons_of_mem _ hy)]
    dsimp only
    rw [List.flatMap_cons, List.append_assoc]
    rfl
theorem read_good {n : Nat} (hn : 1 ≤ n) (l : List B8) : ∀ (d v : Nat), l.length - v ≤ d → ∀ x ∈ readS l n v, goodS n x
  | d, v, hd, x, hx => by
    by_cases hv : v < l.length
    · rw [readS_lt hv] at hx
      have hgt := stepQ_gt l n v
      rcases List.mem_cons.1 hx with rfl | hx
      · exact (step_ok hn l v).1
      · match d with
        | 0 => omega
        | d + 1 => exact read_good hn l d _ (by omega) x hx
    · rw [readS_ge hv] at hx
      cases hx
theorem read_len {n : Nat} (hn : 1 ≤ n) (l : List B8) : ∀ (d v : Nat), l.length - v ≤ d → v < l.length → (∀ x ∈ readS l n v, x.bs.length ≤ 1000) → v + ((readS l n v).flatMap (encS n)).length ≤ l.length + 1020
  | d, v, hd, hv, hb => by
    have hgt := stepQ_gt l n v
    have hso := (step_ok hn l v).2
    rw [readS_lt hv] at hb ⊢
    have hb0 := hb _ (List.mem_cons_self ..)
    have hb1 : ∀ x ∈ readS l n (stepQ l n v).2, x.bs.length ≤ 1000 := fun x hx => hb x (List.mem_cons_of_mem _ hx)
    have hle := wstep_len n ([], false) (stepQ l n v).1
    rw [List.flatMap_cons, List.length_append]
    have he : (encS n (stepQ l n v).1).length = (wstep n ([], false) (stepQ l n v).1).1.length := rfl
    rw [he]
    simp only [List.length_nil] at hle
    generalize (wstep n ([], false) (stepQ l n v).1).1.length = q at *
    by_cases hv2 : (stepQ l n v).2 < l.length
    · match d with
      | 0 => omega
      | d + 1 =>
        have := read_len hn l d _ (by omega) hv2 hb1
        omega
    · rw [readS_ge hv2]
      show v + (q + 0) ≤ _
      omega
theorem back_read {n : Nat} (hn : n ≤ 8) : ∀ (ss : List SP) (p : List B8), (∀ x ∈ ss, goodS n x) → readS (p ++ ss.flatMap (encS n)) n p.length = ss
  | [], p, _ => by
    rw [readS_ge]
    simp
  | x :: ss, p, h => by
    have hb := step_back hn (h x (List.mem_cons_self ..)) (ss.flatMap (encS n))
    have hgt := stepQ_gt ((wstep n ([], false) x).1 ++ ss.flatMap (encS n)) n 0
    rw [hb] at hgt
    have hsh := stepQ_shift p ((wstep n ([], false) x).1 ++ ss.flatMap (encS n)) n 0
    rw [hb] at hsh
    dsimp only at hsh hgt
    rw [Nat.add_zero] at hsh
    have ih := back_read hn ss (p ++ (wstep n ([], false) x).1) fun y hy => h y (List.mem_cons_of_mem _ hy)
    rw [List.append_assoc, List.length_append] at ih
    rw [List.flatMap_cons]
    show readS (p ++ ((wstep n ([], false) x).1 ++ _)) n p.length = _
    rw [readS_lt (by rw [List.length_append, List.length_append]; omega), hsh]
    dsimp only
    rw [ih]
def bytesQ (l : List B8) : List B8 := guessQ (cfgQ l) ++ (readS l (clientsQ l) 9).flatMap (encS (clientsQ l))
theorem cfg_cl (l : List B8) : (cfgQ l).cl = (clientsQ l : Nat) := by
  unfold cfgQ clientsQ
  dsimp only
  omega
theorem write_read (l : List B8) (hl : l.length ≤ 15000) (hb : ∀ x ∈ readS l (clientsQ l) 9, x.bs.length ≤ 1000) : writeQ (cfgQ l) (readS l (clientsQ l) 9) = (bytesQ l, 0) ∧ (bytesQ l).length ≤ 16384 := by
  have hn1 : 1 ≤ clientsQ l := Nat.succ_pos _
  have hg := read_good hn1 l (l.length - 9) 9 (Nat.le_refl _)
  have hw := cfg_same (cfg_flag l)
  have hlen : (bytesQ l).length ≤ 16384 := by
    unfold bytesQ
    have h9 : (guessQ (cfgQ l)).length = 9 := rfl
    rw [List.length_append, h9]
    by_cases hv : 9 < l.length
    · have := read_len hn1 l (l.length - 9) 9 (Nat.le_refl _) hv hb
      omega
    · rw [readS_ge hv]
      exact Nat.le_of_ble_eq_true rfl
  refine ⟨?_, hlen⟩
  have hq : writeW (cfgQ l) (readS l (clientsQ l) 9) = (bytesQ l, false) := by
    unfold writeW
    rw [cfg_cl, enc_all _ _ hg, hw]
    rfl
  unfold writeQ
  rw [hq]
  dsimp only
  rw [if_neg Bool.false_ne_true, if_neg (by omega)]
theorem read_back (l : List B8) : cfgQ (bytesQ l) = cfgQ l ∧ readS (bytesQ l) (clientsQ (bytesQ l)) 9 = readS l (clientsQ l) 9 := by
  have hc : cfgQ (bytesQ l) = cfgQ l := cfg_back (cfg_flag l) _
  have hcl : clientsQ (bytesQ l) = clientsQ l := by
    have h1 := cfg_cl (bytesQ l)
    rw [hc, cfg_cl] at h1
    omega
  refine ⟨hc, ?_⟩
  rw [hcl]
  exact back_read (by unfold clientsQ; omega) _ _ (read_good (Nat.succ_pos _) l (l.length - 9) 9 (Nat.le_refl _))
end Go.Proofs.YtmochicneilhhaaGreat.sc
