/- Rows of rows of bytes, as they are read. -/
import Derived.Test.YtbhbimfljjgijaaBt
namespace Go.Proofs.Ytbhbimfljjgijaa
open Go.RowKit
/-- a slice of bytes: its value, and what it holds -/
structure Rw where
  A : Option Addr
  n : Nat
  c : Nat
  l : List B8
def Rw.val (r : Rw) : Value := .slice r.A r.n r.c
def rwv (rs : List Rw) : List Value := rs.map Rw.val
def Rw.ok (w : World) (r : Rw) : Prop := Row w w.heap.size 1 r.A r.n (bvs r.l) ∧ r.n ≤ r.c ∧ r.c ≤ 9223372036854775807
def rowsP (A : Option Addr) (n : Nat) (rs : List Rw) (w : World) : Prop := Row w w.heap.size 1 A n (rwv rs) ∧ ∀ r ∈ rs, r.ok w
def rowsOn (A : Option Addr) (n : Nat) (rs : List Rw) (g : Nat) : Prop := (n ≠ 0 ∧ A.map (·.block) = some g) ∨ ∃ r ∈ rs, r.n ≠ 0 ∧ r.A.map (·.block) = some g
theorem rows_stable (A : Option Addr) (n : Nat) (rs : List Rw) : Stable (rowsOn A n rs) (rowsP A n rs) := fun w h => by
  refine ⟨fun b hb => ?_, fun w' hsz hk => ⟨Row.stay h.1 hsz fun b hb => hk b (.inl hb), fun r hr => ?_⟩⟩
  · rcases hb with hb | ⟨r, hr, hb⟩
    · exact Row.lt_of h.1 hb.1 hb.2
    · exact Row.lt_of (h.2 r hr).1 hb.1 hb.2
  · obtain ⟨h1, h2⟩ := h.2 r hr
    exact ⟨Row.stay h1 hsz fun b hb => hk b (.inr ⟨r, hr, hb⟩), h2⟩
abbrev Ck.rows (A : Option Addr) (n : Nat) (rs : List Rw) : Ck := .deep (rowsOn A n rs) (rowsP A n rs) (rows_stable A n rs)
section
variable {L : List Ck}
theorem rwv_len (rs : List Rw) : (rwv rs).length = rs.length := by simp [rwv]
theorem rwv_get {rs : List Rw} {i : Nat} {r : Rw} (h : rs[i]? = some r) : (rwv rs)[mulI i 1]? = some (.slice r.A r.n r.c) := by simp [rwv, mulI, h, Rw.val]
/-- the row of slices itself -/
theorem Gives.rows (k : Nat) {A : Option Addr} {n : Nat} {rs : List Rw} (hk : L[k]? = some (.rows A n rs)) : Gives L (.ro A n 1 (rwv rs) :: L) := Gives.add k hk rfl rfl fun _ h => ⟨h.1, fun _ hb => .inl hb⟩
/-- one of the slices -/
theorem Gives.rowsAt (k : Nat) {A : Option Addr} {n i : Nat} {rs : List Rw} {r : Rw} (hk : L[k]? = some (.rows A n rs)) (hi : rs[i]? = some r) : Gives L (.ro r.A r.n 1 (bvs r.l) :: L) :=
  Gives.add k hk rfl rfl fun _ h => ⟨(h.2 r (List.mem_of_getElem? hi)).1, fun _ hb => .inr ⟨r, List.mem_of_getElem? hi, hb⟩⟩
/-- what is plain of a slice of bytes -/
theorem rows_ok {M : Me} {w : World} (k : Nat) {A : Option Addr} {n i : Nat} {rs : List Rw} {r : Rw} (hk : L[k]? = some (.rows A n rs)) (hi : rs[i]? = some r) (hm : Mem M L w) : r.l.length = r.n ∧ r.n ≤ r.c ∧ r.c ≤ 9223372036854775807 := by
  have h : rowsP A n rs w := hm.get hk
  obtain ⟨h1, h2, h3⟩ := h.2 r (List.mem_of_getElem? hi)
  have := h1.1
  rw [bvs_len] at this
  omega
theorem rows_len {M : Me} {w : World} (k : Nat) {A : Option Addr} {n : Nat} {rs : List Rw} (hk : L[k]? = some (.rows A n rs)) (hm : Mem M L w) : rs.length = n := by
  have h : rowsP A n rs w := hm.get hk
  have := h.1.1
  rw [rwv_len] at this
  omega
theorem rows_in {w : World} {Lin : List Ck} {A : Option Addr} {m : Nat} {rs : List Rw} (h : rowsP A m rs w) (hin : Mem ⟨w, []⟩ Lin w) (hro : Lin.all (fun c => !c.mut_) = true) : Mem ⟨w, []⟩ (.rows A m rs :: Lin) w := by
  refine ⟨hin.keep, fun c hc => ?_, fun c hc hm => ?_, List.Pairwise.cons (fun c hc hm => ?_) hin.sep⟩
  · rcases List.mem_cons.1 hc with rfl | hc
    · exact h
    · exact hin.all c hc
  · rcases List.mem_cons.1 hc with rfl | hc
    · cases hm
    · exact hin.out c hc hm
  · have := List.all_eq_true.1 hro c hc
    rcases hm with hm | hm
    · cases hm
    · rw [hm] at this; cases this
/-- two chunks that are read, as one -/
theorem Gives.merge {c1 c2 c' : Ck} (h1 : c1.mut_ = false) (h2 : c2.mut_ = false) (h' : c'.mut_ = false) (hg : ∀ w, c1.holds w → c2.holds w → c'.holds w ∧ ∀ b, c'.on b → c1.on b ∨ c2.on b) : Gives (c1 :: c2 :: L) (c' :: L) := fun M w h => by
  have hw := hg w (h.get (k := 0) rfl) (h.get (k := 1) rfl)
  have s1 := List.pairwise_cons.1 h.sep
  have s2 := List.pairwise_cons.1 s1.2
  refine ⟨h.keep, fun x hx => ?_, fun x hx hm b hb => ?_, List.Pairwise.cons (fun x hx hm b hb hb' => ?_) s2.2⟩
  · rcases List.mem_cons.1 hx with rfl | hx
    · exact hw.1
    · exact h.all x (List.mem_cons_of_mem _ (List.mem_cons_of_mem _ hx))
  · rcases List.mem_cons.1 hx with rfl | hx
    · rw [h'] at hm; cases hm
    · exact h.out x (List.mem_cons_of_mem _ (List.mem_cons_of_mem _ hx)) hm b hb
  · have hxm : x.mut_ = true := by
      rcases hm with hm | hm
      · rw [h'] at hm; cases hm
      · exact hm
    rcases hw.2 b hb with hb | hb
    · exact s1.1 x (List.mem_cons_of_mem _ hx) (.inr hxm) b hb hb'
    · exact s2.1 x hx (.inr hxm) b hb hb'
/-- what slices hold, without the row of them -/
def innP (rs : List Rw) (w : World) : Prop := ∀ r ∈ rs, r.ok w
def innOn (rs : List Rw) (g : Nat) : Prop := ∃ r ∈ rs, r.n ≠ 0 ∧ r.A.map (·.block) = some g
theorem inn_stable (rs : List Rw) : Stable (innOn rs) (innP rs) := fun w h => by
  refine ⟨fun b hb => ?_, fun w' hsz hk r hr => ?_⟩
  · obtain ⟨r, hr, hb⟩ := hb
    exact Row.lt_of (h r hr).1 hb.1 hb.2
  · obtain ⟨h1, h2⟩ := h r hr
    exact ⟨Row.stay h1 hsz fun b hb => hk b ⟨r, hr, hb⟩, h2⟩
abbrev Ck.inn (rs : List Rw) : Ck := .deep (innOn rs) (innP rs) (inn_stable rs)
theorem Gives.innnil (L : List Ck) : Gives L (.inn [] :: L) := fun M w h => by
  refine ⟨h.keep, fun x hx => ?_, fun x hx hm b hb => ?_, List.Pairwise.cons (fun x _ _ b hb => ?_) h.sep⟩
  · rcases List.mem_cons.1 hx with rfl | hx
    · intro r hr; cases hr
    · exact h.all x hx
  · rcases List.mem_cons.1 hx with rfl | hx
    · cases hm
    · exact h.out x hx hm b hb
  · obtain ⟨r, hr, _⟩ := hb; cases hr
theorem Gives.innpush {A : Option Addr} {n c : Nat} {l : List B8} {rs : List Rw} (hc : n ≤ c ∧ c ≤ 9223372036854775807) : Gives (.ro A n 1 (bvs l) :: .inn rs :: L) (.inn (rs ++ [⟨A, n, c, l⟩]) :: L) :=
  Gives.merge rfl rfl rfl fun w h1 h2 => ⟨fun r hr => by
    rcases List.mem_append.1 hr with hr | hr
    · exact h2 r hr
    · obtain rfl := List.mem_singleton.1 hr
      exact ⟨h1, hc⟩, fun b hb => by
    obtain ⟨r, hr, hb⟩ := hb
    rcases List.mem_append.1 hr with hr | hr
    · exact .inr ⟨r, hr, hb⟩
    · obtain rfl := List.mem_singleton.1 hr
      exact .inl hb⟩
theorem Gives.innrows {A : Option Addr} {n : Nat} {rs : List Rw} : Gives (.ro A n 1 (rwv rs) :: .inn rs :: L) (.rows A n rs :: L) :=
  Gives.merge rfl rfl rfl fun w h1 h2 => ⟨⟨h1, h2⟩, fun b hb => by
    rcases hb with hb | hb
    · exact .inl hb
    · exact .inr hb⟩
end
end Go.Proofs.Ytbhbimfljjgijaa
