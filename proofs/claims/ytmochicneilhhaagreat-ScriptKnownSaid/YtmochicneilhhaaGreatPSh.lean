/- A region that draws its order, whatever its loud operations wait for: a tree of the ways in which they may come. -/
import Derived.Test.YtmochicneilhhaaGreatPSf
namespace Go.Proofs.YtmochicneilhhaaGreat
open Go.RowKit
/-- the ways on from here: c comes next, then the quiet ones of sg, then sub; or else rest -/
inductive Tr where
  | fin
  | none
  | alt (c : Nat) (sg : List Nat) (sub rest : Tr)
section
variable {P : Program} {ops : Array Oper} {Q Q' : Exit → Act → World → Prop} {S S1 : World → Prop} {E : List Nat} {K0 : Act → World → Prop}
def BrT (P : Program) (ops : Array Oper) (Q : Exit → Act → World → Prop) (S : World → Prop) (E : List Nat) : Tr → Act → World → Prop
  | .fin, a, w => Q .normal a w
  | .none, _, _ => True
  | .alt c sg sub rest, a, w => stepI P ops Q S E c (wpK P ops Q S E (BrT P ops Q S E sub) sg) a w ∧ BrT P ops Q S E rest a w
def findT : Tr → Nat → Option (List Nat × Tr)
  | .alt c sg sub rest, i => if Nat.beq c i then some (sg, sub) else findT rest i
  | _, _ => none
theorem findT_ok : ∀ {T : Tr} {i : Nat} {sg : List Nat} {sub : Tr} {a : Act} {w : World}, findT T i = some (sg, sub) → BrT P ops Q S E T a w → stepI P ops Q S E i (wpK P ops Q S E (BrT P ops Q S E sub) sg) a w
  | .fin, _, _, _, _, _, h, _ => by cases h
  | .none, _, _, _, _, _, h, _ => by cases h
  | .alt c sg' sub' rest, i, sg, sub, a, w, h, hb => by
    unfold findT at h
    split at h
    · rename_i hc
      cases h
      have : c = i := Nat.eq_of_beq_eq_true hc
      subst this
      exact hb.1
    · exact findT_ok h hb.2
/-- the loud ones that j waits for are all in h -/
def lab (ops : Array Oper) (E h : List Nat) (j : Nat) : Bool := E.all fun e => !(downs ops j (onOf ops j)).contains e || h.contains e
def segN (ops : Array Oper) (E h : List Nat) (c : Nat) : List Nat := (List.range ops.size).filter fun j => !E.contains j && lab ops E (h ++ [c]) j && !lab ops E h j
def seg0 (ops : Array Oper) (E : List Nat) : List Nat := (List.range ops.size).filter fun j => !E.contains j && lab ops E [] j
def isFin : Tr → Bool
  | .fin => true
  | _ => false
def okT (ops : Array Oper) (E : List Nat) : Nat → List Nat → Tr → Bool
  | 0, h, T => E.all (h.contains ·) && isFin T
  | m + 1, h, T => bif E.all (h.contains ·) then isFin T else E.all fun c => h.contains c || !lab ops E h c || match findT T c with
    | some (sg, sub) => sg == segN ops E h c && okT ops E m (h ++ [c]) sub
    | none => false
theorem lab_iff {h : List Nat} {j : Nat} : lab ops E h j = true ↔ ∀ e ∈ E, e ∈ downs ops j (onOf ops j) → e ∈ h := by
  simp only [lab, List.all_eq_true, Bool.or_eq_true, Bool.not_eq_true', List.contains_eq_mem, decide_eq_false_iff_not, decide_eq_true_eq]
  exact ⟨fun hx e he hd => (hx e he).resolve_left fun hn => hn hd, fun hx e he => by
    by_cases hd : e ∈ downs ops j (onOf ops j)
    · exact .inr (hx e he hd)
    · exact .inl hd⟩
/-- it leads back, with all that this leads back to -/
theorem downs_closed (hback : ∀ i, i < ops.size → ∀ j ∈ onOf ops i, j < i) : ∀ (k : Nat) (m : List Nat), (∀ x ∈ m, k ≤ x → ∀ e ∈ onOf ops x, e ∈ m) → ∀ x ∈ downs ops k m, ∀ e ∈ onOf ops x, e ∈ downs ops k m
  | 0, m, h, x, hx, e, he => h x hx (Nat.zero_le _) e he
  | k + 1, m, h, x, hx, e, he => by
    unfold downs at hx ⊢
    split at hx
    · rename_i hc
      rw [if_pos hc]
      refine downs_closed hback k _ (fun y hy hky f hf => ?_) x hx e he
      rcases List.mem_append.1 hy with hy | hy
      · by_cases hyk : y = k
        · subst hyk
          exact List.mem_append_right _ hf
        · exact List.mem_append_left _ (h y hy (by omega) f hf)
      · have hk : k < ops.size := by
          rcases Nat.lt_or_ge k ops.size with h' | h'
          · exact h'
          · rw [Array.getElem?_eq_none h'] at hy
            cases hy
        have := hback k hk y hy
        omega
    · rename_i hc
      rw [if_neg hc]
      refine downs_closed hback k m (fun y hy hky f hf => ?_) x hx e he
      by_cases hyk : y = k
      · subst hyk
        exact absurd (by simpa using hy) hc
      · exact h y hy (by omega) f hf
theorem onOf_lt (hback : ∀ i, i < ops.size → ∀ j ∈ onOf ops i, j < i) {i j : Nat} (h : j ∈ onOf ops i) : j < i := by
  rcases Nat.lt_or_ge i ops.size with h' | h'
  · exact hback i h' j h
  · unfold onOf at h
    rw [Array.getElem?_eq_none h'] at h
    cases h
theorem downs_lt (hback : ∀ i, i < ops.size → ∀ j ∈ onOf ops i, j < i) {i j : Nat} (h : j ∈ downs ops i (onOf ops i)) : j < i :=
  downs_all (p := (· < i)) (fun _ hk e he => Nat.lt_trans (onOf_lt hback he) hk) i _ (fun _ he => onOf_lt hback he) j h
theorem downs_trans (hback : ∀ i, i < ops.size → ∀ j ∈ onOf ops i, j < i) {i j e : Nat} (h1 : e ∈ downs ops i (onOf ops i)) (h2 : i ∈ downs ops j (onOf ops j)) : e ∈ downs ops j (onOf ops j) := by
  have hcl := downs_closed hback j (onOf ops j) fun x hx hle => absurd (onOf_lt hback hx) (Nat.not_lt.2 hle)
  exact downs_all (p := (· ∈ downs ops j (onOf ops j))) (fun k hk f hf => hcl k hk f hf) i _ (fun f hf => hcl i h2 f hf) e h1
def cntU (listed : Array Bool) (m : Nat) : Nat := (List.range m).countP fun j => !listed.getD j true
theorem cnt_set {listed : Array Bool} {m i : Nat} (hsz : listed.size = m) (hi : i < m) (hu : listed.getD i true = false) : cntU (listed.setIfInBounds i true) m + 1 = cntU listed m := by
  unfold cntU
  have hsp : List.range m = List.range' 0 i ++ i :: List.range' (i + 1) (m - (i + 1)) := by rw [List.range_eq_range']; exact range_split hi
  rw [hsp, List.countP_append, List.countP_append, List.countP_cons, List.countP_cons]
  have e1 : ∀ l : List Nat, (∀ j ∈ l, j ≠ i) → l.countP (fun j => !(listed.setIfInBounds i true).getD j true) = l.countP fun j => !listed.getD j true := fun l hl =>
    List.countP_congr fun j hj => by rw [getD_set_ne true (Ne.symm (hl j hj))]
  have a1 : ∀ j ∈ List.range' 0 i, j ≠ i := fun j hj => by have := List.mem_range'_1.1 hj; omega
  have a2 : ∀ j ∈ List.range' (i + 1) (m - (i + 1)), j ≠ i := fun j hj => by have := List.mem_range'_1.1 hj; omega
  rw [e1 _ a1, e1 _ a2, hu]
  have : (listed.setIfInBounds i true).getD i true = true := by simp [Array.getD_eq_getD_getElem?, hsz, hi]
  rw [this]
  simp
  omega
structure StT (ops : Array Oper) (E : List Nat) (l h : List Nat) (listed : Array Bool) : Prop where
  mem : ∀ j, listed.getD j true = false ↔ j < ops.size ∧ (j ∈ l ∨ (E.contains j = true ∧ j ∉ h) ∨ (¬ E.contains j = true ∧ lab ops E h j = false))
  quiet : ∀ j ∈ l, ¬ E.contains j = true ∧ lab ops E h j = true
  nodup : l.Nodup
  topo : l.Pairwise fun j i => i ∉ downs ops j (onOf ops j)
theorem anyT (hsel : ∀ (j : Nat) (o : Oper) cs b, ops[j]? = some o → o.op ≠ .select cs b) (hback : ∀ i, i < ops.size → ∀ j ∈ onOf ops i, j < i) (hQ : NoDeath Q)
    (hap : ∀ i j oi oj, ops[i]? = some oi → ops[j]? = some oj → j ≠ i → ¬ E.contains j = true → j ∈ onOf ops i ∨ i ∈ downs ops j (onOf ops j) ∨ oj.apart ops oi = true) (hEs : ∀ e ∈ E, e < ops.size) :
    ∀ (fuel : Nat) (m : Nat) (l h : List Nat) (T : Tr) (listed : Array Bool), cntU listed ops.size = fuel → StT ops E l h listed → listed.size = ops.size → (∀ k, listed.getD k false = true → ∀ e ∈ onOf ops k, listed.getD e false = true) → okT ops E m h T = true →
      ∀ a w, S w → wpK P ops Q S E (BrT P ops Q S E T) l a w → wpAnyH P .any ops Q S fuel listed a w := by
  intro fuel
  induction fuel with
  | zero =>
    intro m l h T listed hc hst hsz hcl hok a w hS hw
    have hall : ∀ j, ¬ listed.getD j true = false := fun j hj => by
      have hjn := mem_inb hsz hj
      have := List.countP_eq_zero.1 hc j (List.mem_range.2 hjn)
      rw [hj] at this
      exact this rfl
    obtain rfl : l = [] := by
      cases l with
      | nil => rfl
      | cons x l =>
        have h1 := hst.quiet x (List.mem_cons_self ..)
        by_cases hx : x < ops.size
        · exact absurd ((hst.mem x).2 ⟨hx, .inl (List.mem_cons_self ..)⟩) (hall x)
        · exfalso
          cases hw' : ops[x]? with
          | none =>
            obtain ⟨o, ho, _⟩ := hw
            rw [hw'] at ho; cases ho
          | some o => exact hx (Array.getElem?_eq_some_iff.1 hw').1
    have hE : E.all (h.contains ·) = true := List.all_eq_true.2 fun e he => by
      rw [List.contains_eq_mem, decide_eq_true_eq]
      by_cases hh : e ∈ h
      · exact hh
      · exact absurd ((hst.mem e).2 ⟨hEs e he, .inr (.inl ⟨List.contains_iff_mem.2 he, hh⟩)⟩) (hall e)
    have hfin : isFin T = true := by
      cases m with
      | zero => simp only [okT, Bool.and_eq_true] at hok; exact hok.2
      | succ m => simp only [okT, hE, cond_true] at hok; exact hok
    cases T with
    | fin =>
      refine ⟨?_, hw⟩
      rw [List.eq_nil_iff_forall_not_mem]
      intro j hj
      exact hall j (mem_ready.1 hj).1
    | none => cases hfin
    | alt => cases hfin
  | succ fuel ih =>
    intro m l h T listed hc hst hsz hcl hok a w hS hw
    have unl : ∀ {x : Nat}, listed.getD x true = false → ¬ listed.getD x false = true := fun {x} hx => (unlisted_iff hsz (mem_inb hsz hx)).1 hx
    refine ⟨fun hr => absurd hr (ready_any hback (l := (List.range ops.size).filter fun j => !listed.getD j true) (fun he => ?_) (fun j => ?_) hsz), fun i hi => ?_⟩
    · have : cntU listed ops.size = 0 := by
        unfold cntU
        rw [List.countP_eq_length_filter, he]
        rfl
      omega
    · rw [List.mem_filter, List.mem_range]
      simp only [Bool.not_eq_true']
      exact ⟨fun h => h.2, fun h => ⟨mem_inb hsz h, h⟩⟩
    · obtain ⟨hun, oi, hoi, hall⟩ := mem_ready.1 hi
      have hin := mem_inb hsz hun
      have hon : ∀ e ∈ onOf ops i, listed.getD e false = true := fun e he => by
        obtain ⟨x, hx, hb, rfl⟩ := (mem_onOf hoi).1 he
        exact hall x hx hb
      have back : ∀ {x : Nat}, x ∈ downs ops i (onOf ops i) → listed.getD x false = true := fun {x} hx => downs_all (p := fun e => listed.getD e false = true) (fun k hk e he => hcl k hk e he) i _ hon x hx
      have hcnt : cntU (listed.setIfInBounds i true) ops.size = fuel := by have := cnt_set hsz hin hun; omega
      have hlabi : lab ops E h i = true := lab_iff.2 fun e he hd => by
        by_cases hh : e ∈ h
        · exact hh
        · exact absurd (back hd) (unl ((hst.mem e).2 ⟨hEs e he, .inr (.inl ⟨List.contains_iff_mem.2 he, hh⟩)⟩))
      have hunl : ∀ j ∈ l, j < ops.size → listed.getD j true = false := fun j hj hjn => (hst.mem j).2 ⟨hjn, .inl hj⟩
      have hapl : ∀ l1 : List Nat, (∀ j ∈ l1, j ∈ l ∧ j ≠ i ∧ i ∉ downs ops j (onOf ops j)) → (∀ j ∈ l1, ∃ oj, ops[j]? = some oj) → ∀ j ∈ l1, ∃ oj, ops[j]? = some oj ∧ oj.apart ops oi = true ∧ ¬ (E.contains i = true ∧ E.contains j = true) := fun l1 h1 h2 j hj => by
        obtain ⟨hjl, hji, hjd⟩ := h1 j hj
        obtain ⟨oj, hoj⟩ := h2 j hj
        have hjn : j < ops.size := (Array.getElem?_eq_some_iff.1 hoj).1
        refine ⟨oj, hoj, ?_, fun hh => (hst.quiet j hjl).1 hh.2⟩
        rcases hap i j oi oj hoi hoj hji (hst.quiet j hjl).1 with h' | h' | h'
        · exact absurd (hon j h') (unl (hunl j hjl hjn))
        · exact absurd h' hjd
        · exact h'
      have there : ∀ (l1 : List Nat) (K : Act → World → Prop) (a : Act) (w : World), wpK P ops Q S E K l1 a w → True := fun _ _ _ _ _ => trivial
      have hsz' : (listed.setIfInBounds i true).size = ops.size := by simp [hsz]
      have hcl' : ∀ k, (listed.setIfInBounds i true).getD k false = true → ∀ e ∈ onOf ops k, (listed.setIfInBounds i true).getD e false = true := fun k hk' e he => by
        by_cases hki : k = i
        · subst hki; exact getD_set_true (hon e he)
        · rw [getD_set_ne false (Ne.symm hki)] at hk'
          exact getD_set_true (hcl k hk' e he)
      by_cases hei : E.contains i = true
      · have hih : i ∉ h := by
          rcases ((hst.mem i).1 hun).2 with h' | h' | h'
          · exact absurd hei (hst.quiet i h').1
          · exact h'.2
          · exact absurd hei h'.1
        have hnall : E.all (h.contains ·) = false := by
          rw [Bool.eq_false_iff]
          intro hx
          have := List.all_eq_true.1 hx i (List.contains_iff_mem.1 hei)
          exact hih (List.contains_iff_mem.1 this)
        cases m with
        | zero => simp only [okT, Bool.and_eq_true] at hok; rw [hnall] at hok; cases hok.1
        | succ m =>
          simp only [okT, hnall, cond_false] at hok
          have hci := List.all_eq_true.1 hok i (List.contains_iff_mem.1 hei)
          have hnc : h.contains i = false := by rw [List.contains_eq_mem, decide_eq_false_iff_not]; exact hih
          rw [hnc, hlabi] at hci
          simp only [Bool.not_true, Bool.false_or] at hci
          cases hf : findT T i with
          | none => rw [hf] at hci; cases hci
          | some q =>
            obtain ⟨sg, sub⟩ := q
            rw [hf] at hci
            simp only [Bool.and_eq_true, beq_iff_eq] at hci
            obtain ⟨rfl, hsub⟩ := hci
            have hw1 : wpK P ops Q S E (wpK P ops Q S E (wpK P ops Q S E (BrT P ops Q S E sub) (segN ops E h i)) [i]) l a w := wpK_mono (fun a' w' _ hk => findT_ok hf hk) l a w hS hw
            have hlo : ∀ (l : List Nat), (∀ j ∈ l, j < ops.size) → ∀ j ∈ l, ∃ oj, ops[j]? = some oj := fun l hl j hj => ⟨ops[j]'(hl j hj), by simp [hl j hj]⟩
            have hlin : ∀ j ∈ l, j < ops.size := by
              have key : ∀ (l1 : List Nat) (K : Act → World → Prop) (a : Act) (w : World), wpK P ops Q S E K l1 a w → S w → ∀ j ∈ l1, j < ops.size := by
                intro l1
                induction l1 with
                | nil => intro _ _ _ _ _ j hj; cases hj
                | cons x l1 ihl =>
                  intro K a w hk hSw j hj
                  obtain ⟨o, ho, hk⟩ := hk
                  rcases List.mem_cons.1 hj with rfl | hj
                  · exact (Array.getElem?_eq_some_iff.1 ho).1
                  · rcases hk with ⟨v, _, hk⟩ | ⟨_, _, hk⟩
                    · exact ihl K _ _ hk hSw j hj
                    · obtain ⟨_, _, w', hSw', hk'⟩ := wp_some hQ hk
                      exact ihl K _ _ hk' hSw' j hj
              exact key l _ a w hw hS
            have hfr := wpK_front hoi hsel hQ [] l (hapl l (fun j hj => ⟨hj, fun e => (hst.quiet j hj).1 (e ▸ hei), fun hd => hih (lab_iff.1 (hst.quiet j hj).2 i (List.contains_iff_mem.1 hei) hd)⟩) (hlo l hlin)) a w hS (wpK_app l a w hw1)
            rw [List.append_nil] at hfr
            refine wpOp_mono (fun a' w' hk => ⟨hk.1, ?_⟩) (stepI_wpOp hS hfr)
            refine ih m (l ++ segN ops E h i) (h ++ [i]) sub _ hcnt ⟨fun j => ?_, fun j hj => ?_, ?_, ?_⟩ hsz' hcl' hsub a' w' hk.1 (wpK_app l a' w' hk.2)
            · have hlm : ∀ x, lab ops E h x = true → lab ops E (h ++ [i]) x = true := fun x hx => lab_iff.2 fun e he hd => List.mem_append_left _ (lab_iff.1 hx e he hd)
              by_cases hji : j = i
              · subst hji
                have : (listed.setIfInBounds j true).getD j true = true := by simp [Array.getD_eq_getD_getElem?, hsz, hin]
                rw [this]
                refine ⟨fun h => (by cases h), fun ⟨_, hx⟩ => ?_⟩
                rcases hx with hx | hx | hx
                · rcases List.mem_append.1 hx with hx | hx
                  · exact absurd hei (hst.quiet j hx).1
                  · have := (List.mem_filter.1 hx).2
                    simp only [Bool.and_eq_true, Bool.not_eq_true'] at this
                    rw [hei] at this
                    cases this.1.1
                · exact absurd (List.mem_append_right _ (List.mem_singleton.2 rfl)) hx.2
                · exact absurd hei hx.1
              · rw [getD_set_ne true (Ne.symm hji), hst.mem j]
                refine and_congr_right fun hjn => ?_
                constructor
                · intro hx
                  rcases hx with hx | hx | hx
                  · exact .inl (List.mem_append_left _ hx)
                  · refine .inr (.inl ⟨hx.1, fun hm => ?_⟩)
                    rcases List.mem_append.1 hm with hm | hm
                    · exact hx.2 hm
                    · exact hji (List.mem_singleton.1 hm)
                  · cases hl2 : lab ops E (h ++ [i]) j with
                    | false => exact .inr (.inr ⟨hx.1, rfl⟩)
                    | true =>
                      refine .inl (List.mem_append_right _ (List.mem_filter.2 ⟨List.mem_range.2 hjn, ?_⟩))
                      simp only [Bool.and_eq_true, Bool.not_eq_true']
                      exact ⟨⟨by simpa using hx.1, hl2⟩, hx.2⟩
                · intro hx
                  rcases hx with hx | hx | hx
                  · rcases List.mem_append.1 hx with hx | hx
                    · exact .inl hx
                    · have := (List.mem_filter.1 hx).2
                      simp only [Bool.and_eq_true, Bool.not_eq_true'] at this
                      exact .inr (.inr ⟨by rw [this.1.1]; simp, this.2⟩)
                  · exact .inr (.inl ⟨hx.1, fun hm => hx.2 (List.mem_append_left _ hm)⟩)
                  · refine .inr (.inr ⟨hx.1, ?_⟩)
                    rw [Bool.eq_false_iff]
                    intro hl2
                    rw [hlm j hl2] at hx
                    cases hx.2
            · rcases List.mem_append.1 hj with hj | hj
              · exact ⟨(hst.quiet j hj).1, lab_iff.2 fun e he hd => List.mem_append_left _ (lab_iff.1 (hst.quiet j hj).2 e he hd)⟩
              · have := (List.mem_filter.1 hj).2
                simp only [Bool.and_eq_true, Bool.not_eq_true'] at this
                exact ⟨by rw [this.1.1]; simp, this.1.2⟩
            · refine List.nodup_append.2 ⟨hst.nodup, List.nodup_range.filter _, fun x hx y hy he => ?_⟩
              subst he
              have := (List.mem_filter.1 hy).2
              simp only [Bool.and_eq_true, Bool.not_eq_true'] at this
              rw [(hst.quiet x hx).2] at this
              cases this.2
            · refine List.pairwise_append.2 ⟨hst.topo, ?_, fun x hx y hy hd => ?_⟩
              · have hlt : (segN ops E h i).Pairwise (· < ·) := (List.pairwise_lt_range (n := ops.size)).filter _
                exact hlt.imp fun hxy hd => absurd (downs_lt hback hd) (Nat.not_lt.2 (Nat.le_of_lt hxy))
              · have := (List.mem_filter.1 hy).2
                simp only [Bool.and_eq_true, Bool.not_eq_true'] at this
                have hly : lab ops E h y = true := lab_iff.2 fun e he hde => lab_iff.1 (hst.quiet x hx).2 e he (downs_trans hback hde hd)
                rw [hly] at this
                cases this.2
      · have hil : i ∈ l := by
          rcases ((hst.mem i).1 hun).2 with h' | h' | h'
          · exact h'
          · exact absurd h'.1 hei
          · rw [hlabi] at h'; cases h'.2
        obtain ⟨l1, l2, rfl⟩ := List.append_of_mem hil
        have hnd := List.nodup_append.1 hst.nodup
        have hne1 : ∀ j ∈ l1, j ≠ i := fun j hj e => hnd.2.2 j hj i (List.mem_cons_self ..) e
        have hne2 : ∀ j ∈ l2, j ≠ i := fun j hj e => (List.nodup_cons.1 hnd.2.1).1 (e ▸ hj)
        have hl1in : ∀ j ∈ l1, ∃ oj, ops[j]? = some oj := by
          have key : ∀ (l1 l2 : List Nat) (K : Act → World → Prop) (a : Act) (w : World), wpK P ops Q S E K (l1 ++ l2) a w → S w → ∀ j ∈ l1, ∃ oj, ops[j]? = some oj := by
            intro l1
            induction l1 with
            | nil => intro _ _ _ _ _ _ j hj; cases hj
            | cons x l1 ihl =>
              intro l2 K a w hk hSw j hj
              obtain ⟨o, ho, hk⟩ := hk
              rcases List.mem_cons.1 hj with rfl | hj
              · exact ⟨o, ho⟩
              · rcases hk with ⟨v, _, hk⟩ | ⟨_, _, hk⟩
                · exact ihl l2 K _ _ hk hSw j hj
                · obtain ⟨_, _, w', hSw', hk'⟩ := wp_some hQ hk
                  exact ihl l2 K _ _ hk' hSw' j hj
          exact key l1 _ _ a w hw hS
        refine wpOp_mono (fun a' w' hk => ⟨hk.1, ?_⟩) (stepI_wpOp hS (wpK_front hoi hsel hQ l2 l1 (hapl l1 (fun j hj => ⟨List.mem_append_left _ hj, hne1 j hj, (List.pairwise_append.1 hst.topo).2.2 j hj i (List.mem_cons_self ..)⟩) hl1in) a w hS hw))
        refine ih m (l1 ++ l2) h T _ hcnt ⟨fun j => ?_, fun j hj => hst.quiet j (by
          rcases List.mem_append.1 hj with h' | h'
          · exact List.mem_append_left _ h'
          · exact List.mem_append_right _ (List.mem_cons_of_mem _ h')), hst.nodup.sublist (by simp), hst.topo.sublist (by simp)⟩ hsz' hcl' hok a' w' hk.1 hk.2
        by_cases hji : j = i
        · subst hji
          have : (listed.setIfInBounds j true).getD j true = true := by simp [Array.getD_eq_getD_getElem?, hsz, hin]
          rw [this]
          refine ⟨fun h => (by cases h), fun ⟨_, hx⟩ => ?_⟩
          rcases hx with hx | hx | hx
          · rcases List.mem_append.1 hx with hx | hx
            · exact absurd rfl (hne1 j hx)
            · exact absurd rfl (hne2 j hx)
          · exact absurd hx.1 hei
          · rw [hlabi] at hx; cases hx.2
        · rw [getD_set_ne true (Ne.symm hji), hst.mem j]
          simp only [List.mem_append, List.mem_cons, hji, false_or]
def apartB (ops : Array Oper) (E : List Nat) : Bool := (List.range ops.size).all fun i => (List.range ops.size).all fun j => Nat.beq j i || E.contains j || (onOf ops i).contains j || (match ops[j]?, ops[i]? with
      | some oj, some oi => oj.apart ops oi
      | _, _ => true) || (downs ops j (onOf ops j)).contains i
def serialT (ops : Array Oper) (E : List Nat) (T : Tr) : Bool :=
  Region.noSelect ops && (List.range ops.size).all (fun i => (onOf ops i).all (fun j => decide (j < i))) && apartB ops E && E.all (fun e => decide (e < ops.size)) && okT ops E E.length [] T
end
section
variable {P : Program} {n : Nat} {M : Me} {Q : Post} {t : Fr} {L : List Ck}
def TX (P : Program) (n : Nat) (M : Me) (l : List Oper) (L0 : List Ck) (Q : Post) : Tr → Fr → List Ck → Prop
  | .fin, t, L => Q .normal t L
  | .none, _, _ => True
  | .alt c sg sub rest, t, L => LX P n M l.toArray (.any [0] L0) 0 (pickO l (c :: sg)) (thenQ (fun t L => Gives L L0 ∧ TX P n M l L0 Q sub t L) Q) t L ∧ TX P n M l L0 Q rest t L
def trB (m : Nat) (E : List Nat) : Tr → Bool
  | .fin => true
  | .none => true
  | .alt c sg sub rest => pickOB m E [0] (c :: sg) && trB m E sub && trB m E rest
theorem brT_of {l : List Oper} {E : List Nat} {L0 : List Ck} : ∀ (T : Tr), trB l.length E T = true → ∀ {t : Fr} {L : List Ck} (_ : Gives L L0), TX P n M l L0 Q T t L → ∀ a w, Frm n t a → Mem M L w → Mem M L0 w → BrT P l.toArray (QQ n M Q) (Mem M L0) E T a w
  | .fin, _, t, L, _, h, a, w, hf, hm, _ => ⟨t, L, hf, hm, h⟩
  | .none, _, _, _, _, _, _, _, _, _, _ => trivial
  | .alt c sg sub rest, hB, t, L, hg, h, a, w, hf, hm, hS => by
    simp only [trB, Bool.and_eq_true] at hB
    obtain ⟨⟨h1, h2⟩, h3⟩ := hB
    obtain ⟨a1, a2⟩ := pick_ok h1
    refine ⟨?_, brT_of rest h3 hg h.2 a w hf hm hS⟩
    have := wpSerK (Q := QQ n M Q) (K0 := BrT P l.toArray (QQ n M Q) (Mem M L0) E sub) (QQ.noDeath _) (fun a' w' hS' hq => by
      obtain ⟨t', L', hf', hm', g0, hx⟩ := hq
      exact brT_of sub h2 g0 hx a' w' hf' hm' hS') _ _ 0 a1 a2 a w hS (h.1 hg a w hf hm)
    exact this
theorem cx_tree {id : Nat} {l : List Oper} (E s0 : List Nat) (T : Tr) (L0 : List Ck) (hm' : P.follows .mixedOrders = true) (hser : serialT l.toArray E T = true) (h0 : (s0 == seg0 l.toArray E) = true) (hE0 : pickOB l.length E [] s0 = true) (hT : trB l.length E T = true) (hg : Gives L L0)
    (h : LX P n M l.toArray (.any [] L0) 0 (pickO l s0) (thenQ (fun t L => Gives L L0 ∧ TX P n M l L0 Q T t L) Q) t L) : CX P n M (.region id l.toArray true) Q t L := fun a w hf hm => by
  simp only [serialT, Bool.and_eq_true, List.all_eq_true, decide_eq_true_eq] at hser
  obtain ⟨⟨⟨⟨hsel, hback⟩, hap⟩, hEs⟩, hok⟩ := hser
  have hback' : ∀ i, i < l.toArray.size → ∀ j ∈ onOf l.toArray i, j < i := fun i hi => hback i (List.mem_range.2 hi)
  rw [beq_iff_eq] at h0
  subst h0
  obtain ⟨a1, a2⟩ := pick_ok hE0
  have hun : ∀ j : Nat, j < l.toArray.size ↔ (Array.replicate l.toArray.size false).getD j true = false := fun j => by
    simp only [Array.getD_eq_getD_getElem?, Array.getElem?_replicate, List.size_toArray]
    split
    · simp; omega
    · simp; omega
  refine wp_region_held (S := Mem M L0) hm' (anyT (fun j o cs b ho => Region.noSelect_spec hsel j o cs b ho) hback' (QQ.noDeath Q) (fun i j oi oj hi hj hne hej => ?_) hEs l.toArray.size E.length (seg0 l.toArray E) [] T _ ?_ ⟨fun j => ?_, fun j hj => ?_, List.nodup_range.filter _, ?_⟩ (by simp) ?_ hok a w.drew (hg M _ hm.drew) ?_)
  · have hin := (Array.getElem?_eq_some_iff.1 hi).1
    have hjn := (Array.getElem?_eq_some_iff.1 hj).1
    have := List.all_eq_true.1 (List.all_eq_true.1 hap i (List.mem_range.2 hin)) j (List.mem_range.2 hjn)
    rw [hi, hj] at this
    simp only [Bool.or_eq_true] at this
    rcases this with (((h' | h') | h') | h') | h'
    · exact absurd (Nat.eq_of_beq_eq_true h') hne
    · exact absurd h' hej
    · exact .inl (List.contains_iff_mem.1 h')
    · exact .inr (.inr h')
    · exact .inr (.inl (List.contains_iff_mem.1 h'))
  · unfold cntU
    rw [List.countP_eq_length.2 fun j hj => ?_, List.length_range]
    rw [(hun j).1 (List.mem_range.1 hj)]
    rfl
  · rw [← hun j]
    constructor
    · intro hj
      refine ⟨hj, ?_⟩
      by_cases hej : E.contains j = true
      · exact .inr (.inl ⟨hej, List.not_mem_nil⟩)
      · cases hl : lab l.toArray E [] j with
        | true => exact .inl (List.mem_filter.2 ⟨List.mem_range.2 hj, by rw [hl, Bool.and_true, Bool.not_eq_true']; simpa using hej⟩)
        | false => exact .inr (.inr ⟨hej, rfl⟩)
    · exact fun h => h.1
  · have := (List.mem_filter.1 hj).2
    simp only [Bool.and_eq_true, Bool.not_eq_true'] at this
    exact ⟨by rw [this.1]; simp, this.2⟩
  · have hlt : (seg0 l.toArray E).Pairwise (· < ·) := (List.pairwise_lt_range (n := l.toArray.size)).filter _
    exact hlt.imp fun hxy hd => absurd (downs_lt hback' hd) (Nat.not_lt.2 (Nat.le_of_lt hxy))
  · intro k hk
    simp only [Array.getD_eq_getD_getElem?, Array.getElem?_replicate] at hk
    split at hk <;> simp at hk
  · refine wpSerK (QQ.noDeath _) ?_ _ _ 0 a1 a2 a w.drew (hg M _ hm.drew) (h hg a _ hf hm.drew)
    rintro a' w' hS ⟨t', L', hf', hm1, g0, h1⟩
    exact brT_of T hT g0 h1 a' w' hf' hm1 hS
end
end Go.Proofs.YtmochicneilhhaaGreat
