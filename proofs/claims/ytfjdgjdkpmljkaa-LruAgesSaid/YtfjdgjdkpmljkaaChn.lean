/-
  The chain (chapter 3): plain law of Push and Drop.
-/
import Derived.Test.YtfjdgjdkpmljkaaFlat
namespace Go.Proofs.Ytfjdgjdkpmljkaa

structure ChainS where
  nx : List Int
  la : List Int
  th : List Bool
  old : Int
  young : Int
  many : Int

def hdI : List Nat → Int
  | [] => -1
  | x :: _ => x
def tlI (l : List Nat) : Int := hdI l.reverse

theorem tlI_snoc (l : List Nat) (x : Nat) : tlI (l ++ [x]) = x := by simp [tlI, hdI]
theorem hdI_app (A B : List Nat) (x : Nat) : hdI (A ++ x :: B) = hdI (A ++ [x]) := by cases A <;> rfl
theorem tlI_app (A B : List Nat) (x : Nat) : tlI (A ++ x :: B) = tlI (x :: B) := by
  rcases List.eq_nil_or_concat B with rfl | ⟨B', y, rfl⟩
  · rw [tlI_snoc]; rfl
  · rw [List.concat_eq_append, show A ++ x :: (B' ++ [y]) = (A ++ x :: B') ++ [y] by simp, show x :: (B' ++ [y]) = (x :: B') ++ [y] by simp, tlI_snoc, tlI_snoc]

structure Chained (c : ChainS) (l : List Nat) : Prop where
  sla : c.la.length = c.nx.length
  sth : c.th.length = c.nx.length
  nodup : l.Nodup
  lt : ∀ x ∈ l, x < c.nx.length
  th : ∀ x, x < c.nx.length → c.th.getD x false = decide (x ∈ l)
  nx : ∀ A x B, l = A ++ x :: B → c.nx.getD x 0 = hdI B
  la : ∀ A x B, l = A ++ x :: B → c.la.getD x 0 = tlI A
  old : c.old = hdI l
  young : c.young = tlI l
  many : c.many = l.length

def ChainS.zero (n : Nat) : ChainS := ⟨List.replicate n 0, List.replicate n 0, List.replicate n false, -1, -1, 0⟩
theorem Chained.zero (n : Nat) : Chained (ChainS.zero n) [] := by
  refine ⟨by simp [ChainS.zero], by simp [ChainS.zero], by simp, by simp, ?_, ?_, ?_, rfl, rfl, rfl⟩
  · intro x hx
    simp [ChainS.zero] at hx
    simp [ChainS.zero, List.getD, hx]
  · intro A x B h; simp at h
  · intro A x B h; simp at h

def ChainS.drop (c : ChainS) (n : Nat) : ChainS :=
  let newer := c.nx.getD n 0
  let older := c.la.getD n 0
  { nx := if older = -1 then c.nx else c.nx.set older.toNat newer
    la := if newer = -1 then c.la else c.la.set newer.toNat older
    th := c.th.set n false
    old := if older = -1 then newer else c.old
    young := if newer = -1 then older else c.young
    many := c.many - 1 }

/-- After a Drop of what was there, or where nothing was. -/
def ChainS.put (c : ChainS) (n : Nat) : ChainS :=
  { nx := if c.young = -1 then c.nx.set n (-1) else (c.nx.set n (-1)).set c.young.toNat n
    la := c.la.set n c.young
    th := c.th.set n true
    old := if c.young = -1 then n else c.old
    young := n
    many := c.many + 1 }

theorem getD_set {α : Type} {l : List α} {i j : Nat} {v d : α} (hi : i < l.length) : (l.set i v).getD j d = if j = i then v else l.getD j d := by
  by_cases h : j = i
  · subst h; simp [List.getD, hi]
  · rw [if_neg h]; simp [List.getD, List.getElem?_set_ne (fun e => h e.symm)]

theorem hdI_cases (l : List Nat) : (l = [] ∧ hdI l = -1) ∨ ∃ y m, l = y :: m ∧ hdI l = y := by
  cases l with
  | nil => exact .inl ⟨rfl, rfl⟩
  | cons y m => exact .inr ⟨y, m, rfl, rfl⟩
theorem tlI_cases (l : List Nat) : (l = [] ∧ tlI l = -1) ∨ ∃ (y : Nat) (m : List Nat), l = m ++ [y] ∧ tlI l = y := by
  rcases List.eq_nil_or_concat l with rfl | ⟨m, y, rfl⟩
  · exact .inl ⟨rfl, rfl⟩
  · rw [List.concat_eq_append]; exact .inr ⟨y, m, rfl, tlI_snoc _ _⟩

/-- A list without doubles is parted at a member in one way. -/
theorem split_uniq {A B C D : List Nat} {x : Nat} (h : A ++ x :: B = C ++ x :: D) (hn : (A ++ x :: B).Nodup) : A = C ∧ B = D := by
  have hA : x ∉ A := by
    intro hx
    rw [List.nodup_append] at hn
    exact hn.2.2 x hx x (by simp) rfl
  have hC : x ∉ C := by
    intro hx
    rw [h, List.nodup_append] at hn
    exact hn.2.2 x hx x (by simp) rfl
  rcases List.append_eq_append_iff.1 h with ⟨E, e1, e2⟩ | ⟨E, e1, e2⟩
  · cases E with
    | nil => simp at e1 e2; exact ⟨e1.symm, e2⟩
    | cons y E =>
      simp at e2
      subst e1
      exact absurd (by simp [e2.1]) hC
  · cases E with
    | nil => simp at e1 e2; exact ⟨e1, e2.symm⟩
    | cons y E =>
      simp at e2
      subst e1
      exact absurd (by simp [e2.1]) hA

theorem Chained.putNew {c : ChainS} {l : List Nat} (h : Chained c l) {n : Nat} (hn : n < c.nx.length) (hx : n ∉ l) : Chained (c.put n) (l ++ [n]) := by
  have hy := h.young
  rcases tlI_cases l with ⟨rfl, e⟩ | ⟨y, m, rfl, e⟩
  · rw [e] at hy
    refine ⟨by simp [ChainS.put, hy, h.sla], by simp [ChainS.put, hy, h.sth], by simp, ?_, ?_, ?_, ?_, by simp [ChainS.put, hy, hdI], by simp [ChainS.put, tlI, hdI], by simp [ChainS.put, h.many]⟩
    · intro x hx; simp at hx; subst hx; simpa [ChainS.put, hy] using hn
    · intro x hx'
      simp [ChainS.put, hy] at hx' ⊢
      have := h.th x hx'
      rw [← List.getD_eq_getElem?_getD, getD_set (by rw [h.sth]; exact hn)]
      by_cases hxn : x = n <;> simp_all
    · intro A x B e2
      cases A with
      | nil => simp at e2; obtain ⟨rfl, rfl⟩ := e2; simp [ChainS.put, hy, hdI, hn]
      | cons a A => simp at e2
    · intro A x B e2
      cases A with
      | nil => simp at e2; obtain ⟨rfl, rfl⟩ := e2; simp [ChainS.put, hy, h.sla, hn]; rfl
      | cons a A => simp at e2
  · rw [e] at hy
    have hyl : y < c.nx.length := h.lt y (by simp)
    have hyn : y ≠ n := fun hh => hx (by simp [hh])
    have hy1 : ¬ (c.young = -1) := by omega
    have hyt : c.young.toNat = y := by omega
    have enx : ∀ x, (c.put n).nx.getD x 0 = if x = y then (n : Int) else if x = n then -1 else c.nx.getD x 0 := by
      intro x
      simp only [ChainS.put, if_neg hy1, hyt]
      rw [getD_set (by simpa using hyl), getD_set hn]
    have ela : ∀ x, (c.put n).la.getD x 0 = if x = n then (y : Int) else c.la.getD x 0 := by
      intro x
      simp only [ChainS.put]
      rw [getD_set (by rw [h.sla]; exact hn), hy]
    have eln : (c.put n).nx.length = c.nx.length := by simp [ChainS.put, hy1]
    have hnd : (m ++ [y] ++ [n]).Nodup := by
      rw [List.nodup_append]
      refine ⟨h.nodup, by simp, ?_⟩
      intro a ha b hb
      simp at hb; subst hb
      intro hh; subst hh; exact hx ha
    refine ⟨by rw [eln]; simp [ChainS.put, h.sla], by rw [eln]; simp [ChainS.put, h.sth], hnd, ?_, ?_, ?_, ?_, ?_, ?_, ?_⟩
    · intro x hx'
      rw [eln]
      rcases List.mem_append.1 hx' with h1 | h1
      · exact h.lt x h1
      · simp at h1; subst h1; exact hn
    · intro x hx'
      rw [eln] at hx'
      have := h.th x hx'
      simp only [ChainS.put]
      rw [getD_set (by rw [h.sth]; exact hn)]
      by_cases hxn : x = n
      · subst hxn; simp
      · rw [if_neg hxn, this]; simp [hxn]
    · intro A x B e2
      rw [enx]
      rcases List.eq_nil_or_concat B with rfl | ⟨B', z, rfl⟩
      · have := List.append_inj' e2 rfl
        simp at this
        obtain ⟨_, rfl⟩ := this
        rw [if_neg (fun hh => hyn hh.symm), if_pos rfl]; rfl
      · rw [List.concat_eq_append, show A ++ x :: (B' ++ [z]) = (A ++ x :: B') ++ [z] by simp] at e2
        have e3 := List.append_inj' e2 rfl
        obtain ⟨e3, e4⟩ := e3
        simp at e4; subst e4
        rcases List.eq_nil_or_concat B' with rfl | ⟨B2, z2, rfl⟩
        · have e5 := List.append_inj' e3 rfl
          simp at e5
          rw [if_pos e5.2.symm]; rfl
        · rw [List.concat_eq_append] at e3 ⊢
          have hxm : x ∈ m ++ [y] := by rw [e3]; simp
          have hxn : x ≠ n := fun hh => hx (hh ▸ hxm)
          have hxy : x ≠ y := by
            intro hh
            have hnd2 := h.nodup
            have e6 : m ++ [y] = (A ++ x :: B2) ++ [z2] := by rw [e3]; simp
            obtain ⟨e7, e8⟩ := List.append_inj' e6 rfl
            simp at e8
            rw [List.nodup_append] at hnd2
            exact hnd2.2.2 x (by rw [e7]; simp) y (by simp) hh
          rw [if_neg hxy, if_neg hxn, h.nx A x (B2 ++ [z2]) (by rw [e3])]
          rw [List.concat_eq_append, List.append_assoc]
          exact (hdI_app B2 [n] z2).symm
    · intro A x B e2
      rw [ela]
      rcases List.eq_nil_or_concat B with rfl | ⟨B', z, rfl⟩
      · have := List.append_inj' e2 rfl
        simp at this
        obtain ⟨rfl, rfl⟩ := this
        rw [if_pos rfl, tlI_snoc]
      · rw [List.concat_eq_append, show A ++ x :: (B' ++ [z]) = (A ++ x :: B') ++ [z] by simp] at e2
        obtain ⟨e3, e4⟩ := List.append_inj' e2 rfl
        have hxm : x ∈ m ++ [y] := by rw [e3]; simp
        have hxn : x ≠ n := fun hh => hx (hh ▸ hxm)
        rw [if_neg hxn, h.la A x B' e3]
    · simp only [ChainS.put, if_neg hy1]
      rw [h.old, List.append_assoc]
      exact (hdI_app m [n] y).symm
    · rw [tlI_snoc]; rfl
    · simp [ChainS.put, h.many]; omega

theorem Chained.drop {c : ChainS} {A B : List Nat} {n : Nat} (h : Chained c (A ++ n :: B)) : Chained (c.drop n) (A ++ B) := by
  have hnx := h.nx A n B rfl
  have hla := h.la A n B rfl
  have hn : n < c.nx.length := h.lt n (by simp)
  have hnd := h.nodup
  have hnd' : (A ++ B).Nodup := hnd.sublist (List.Sublist.append (List.Sublist.refl A) (List.sublist_cons_self n B))
  have hnA : n ∉ A := by
    intro hx
    rw [List.nodup_append] at hnd
    exact hnd.2.2 n hx n (by simp) rfl
  have hnB : n ∉ B := by
    intro hx
    rw [List.nodup_append] at hnd
    exact (List.nodup_cons.1 hnd.2.1).1 hx
  have lA : ∀ x ∈ A, x < c.nx.length := fun x hx => h.lt x (by simp [hx])
  have lB : ∀ x ∈ B, x < c.nx.length := fun x hx => h.lt x (by simp [hx])
  have eln : (c.drop n).nx.length = c.nx.length := by simp only [ChainS.drop]; split <;> simp
  have ell : (c.drop n).la.length = c.nx.length := by simp only [ChainS.drop]; split <;> simp [h.sla]
  have enx : ∀ x, (c.drop n).nx.getD x 0 = if (x : Int) = tlI A then hdI B else c.nx.getD x 0 := by
    intro x
    simp only [ChainS.drop, hnx, hla]
    rcases tlI_cases A with ⟨_, e⟩ | ⟨y, m, e1, e⟩
    · rw [e, if_pos rfl, if_neg (by omega)]
    · rw [e, if_neg (by omega), Int.toNat_natCast, getD_set (lA y (by simp [e1]))]
      by_cases hxy : x = y
      · rw [if_pos hxy, if_pos (by omega)]
      · rw [if_neg hxy, if_neg (by omega)]
  have ela : ∀ x, (c.drop n).la.getD x 0 = if (x : Int) = hdI B then tlI A else c.la.getD x 0 := by
    intro x
    simp only [ChainS.drop, hnx, hla]
    rcases hdI_cases B with ⟨_, e⟩ | ⟨y, m, e1, e⟩
    · rw [e, if_pos rfl, if_neg (by omega)]
    · rw [e, if_neg (by omega), Int.toNat_natCast, getD_set (by rw [h.sla]; exact lB y (by simp [e1]))]
      by_cases hxy : x = y
      · rw [if_pos hxy, if_pos (by omega)]
      · rw [if_neg hxy, if_neg (by omega)]
  refine ⟨by rw [ell, eln], by rw [eln]; simp [ChainS.drop, h.sth], hnd', ?_, ?_, ?_, ?_, ?_, ?_, ?_⟩
  · intro x hx
    rw [eln]
    rcases List.mem_append.1 hx with hx | hx
    · exact lA x hx
    · exact lB x hx
  · intro x hx
    rw [eln] at hx
    simp only [ChainS.drop]
    rw [getD_set (by rw [h.sth]; exact hn)]
    by_cases hxn : x = n
    · subst hxn; simp [hnA, hnB]
    · rw [if_neg hxn, h.th x hx]; simp [hxn]
  · intro C x D e2
    rw [enx]
    rcases List.append_eq_append_iff.1 e2 with ⟨E, e3, e4⟩ | ⟨E, e3, e4⟩
    · -- C = A ++ E, B = E ++ x :: D
      have hxA : (x : Int) ≠ tlI A := by
        rcases tlI_cases A with ⟨_, e⟩ | ⟨y, m, e1, e⟩
        · omega
        · rw [e]
          intro hh
          have hh' : x = y := by omega
          subst hh'
          rw [List.nodup_append] at hnd'
          exact hnd'.2.2 x (by simp [e1]) x (by simp [e4]) rfl
      rw [if_neg hxA]
      exact h.nx (A ++ n :: E) x D (by rw [e4]; simp)
    · -- A = C ++ E, x :: D = E ++ B
      cases E with
      | nil =>
        simp at e3 e4
        have hxA : (x : Int) ≠ tlI A := by
          rcases tlI_cases A with ⟨_, e⟩ | ⟨y, m, e1, e⟩
          · omega
          · rw [e]
            intro hh
            have hh' : x = y := by omega
            subst hh'
            rw [List.nodup_append] at hnd'
            exact hnd'.2.2 x (by simp [e1]) x (by simp [← e4]) rfl
        rw [if_neg hxA]
        exact h.nx (A ++ [n]) x D (by rw [← e4]; simp)
      | cons z E =>
        simp at e4
        obtain ⟨rfl, rfl⟩ := e4
        rcases List.eq_nil_or_concat E with rfl | ⟨E', u, rfl⟩
        · rw [if_pos (by rw [e3, tlI_snoc])]; rfl
        · rw [List.concat_eq_append] at e3
          rw [List.concat_eq_append]
          have hxA : (x : Int) ≠ tlI A := by
            rw [e3, show C ++ x :: (E' ++ [u]) = (C ++ x :: E') ++ [u] by simp, tlI_snoc]
            intro hh
            have hh' : x = u := by omega
            subst hh'
            rw [List.nodup_append] at hnd'
            have := hnd'.1
            rw [e3, show C ++ x :: (E' ++ [x]) = (C ++ x :: E') ++ [x] by simp, List.nodup_append] at this
            exact this.2.2 x (by simp) x (by simp) rfl
          rw [if_neg hxA, h.nx C x (E' ++ [u] ++ n :: B) (by rw [e3]; simp), List.append_assoc, List.append_assoc]
          cases E' <;> rfl
  · intro C x D e2
    rw [ela]
    rcases List.append_eq_append_iff.1 e2 with ⟨E, e3, e4⟩ | ⟨E, e3, e4⟩
    · -- C = A ++ E, B = E ++ x :: D
      cases E with
      | nil =>
        simp at e3 e4
        rw [if_pos (by rw [e4]; rfl), e3]
      | cons z E =>
        have hxB : (x : Int) ≠ hdI B := by
          rw [e4]
          intro hh
          have hh' : x = z := by simp [hdI] at hh; omega
          subst hh'
          rw [List.nodup_append] at hnd'
          have := hnd'.2.1
          rw [e4] at this
          simp at this
        rw [if_neg hxB, h.la (A ++ n :: z :: E) x D (by rw [e4]; simp), e3]
        rw [show A ++ n :: z :: E = (A ++ [n]) ++ z :: E by simp, tlI_app, tlI_app]
    · -- A = C ++ E, x :: D = E ++ B
      cases E with
      | nil =>
        simp at e3 e4
        rw [if_pos (by rw [← e4]; rfl), e3]
      | cons z E =>
        simp at e4
        obtain ⟨rfl, rfl⟩ := e4
        have hxB : (x : Int) ≠ hdI B := by
          rcases hdI_cases B with ⟨_, e⟩ | ⟨y, m, e1, e⟩
          · omega
          · rw [e]
            intro hh
            have hh' : x = y := by omega
            subst hh'
            rw [List.nodup_append] at hnd'
            exact hnd'.2.2 x (by simp [e3]) x (by simp [e1]) rfl
        rw [if_neg hxB, h.la C x (E ++ n :: B) (by rw [e3]; simp)]
  · simp only [ChainS.drop, hnx, hla]
    rcases tlI_cases A with ⟨e1, e⟩ | ⟨y, m, e1, e⟩
    · rw [e, if_pos rfl, e1]; rfl
    · rw [e, if_neg (by omega), h.old, e1, List.append_assoc, List.append_assoc]
      cases m <;> rfl
  · simp only [ChainS.drop, hnx, hla]
    rcases hdI_cases B with ⟨e1, e⟩ | ⟨y, m, e1, e⟩
    · rw [e, if_pos rfl, e1]; simp
    · rw [e, if_neg (by omega), h.young, e1, show A ++ n :: y :: m = (A ++ [n]) ++ y :: m by simp, tlI_app, tlI_app]
  · simp [ChainS.drop, h.many]; omega

end Go.Proofs.Ytfjdgjdkpmljkaa
