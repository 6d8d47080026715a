/-
  A heap's blocks, as a plain list: how taking and freeing turn them. No program in sight.
-/
import Derived.Test.YtjbphdjheklhbaaHp8
namespace Go.Proofs.Ytjbphdjheklhbaa
open Go.RowKit

/-- The blocks lie side by side from o to hi. -/
def Lay : Nat → List BlkS → Nat → Prop
  | o, [], hi => o = hi
  | o, b :: l, hi => b.o = o ∧ 16 ≤ b.size ∧ b.size % 16 = 0 ∧ Lay (o + b.size) l hi
def Heads (M : List Pg) (base : Nat) (l : List BlkS) : Prop := ∀ b ∈ l, hdW M (base + b.o) = b.size + b.used.toNat
structure IsH (n : Nat) (M : List Pg) (base size : Nat) (l : List BlkS) : Prop where
  fl : Fl n M
  top : base + size ≤ 4096 * n
  small : size ≤ 65536
  lay : Lay 0 l size
  heads : Heads M base l

theorem Lay.app {l1 l2 : List BlkS} {o hi : Nat} : Lay o (l1 ++ l2) hi ↔ ∃ mid, Lay o l1 mid ∧ Lay mid l2 hi := by
  induction l1 generalizing o with
  | nil => simp [Lay]
  | cons b l1 ih =>
    simp only [List.cons_append, Lay, ih]
    constructor
    · rintro ⟨h1, h2, h3, mid, h4, h5⟩; exact ⟨mid, ⟨h1, h2, h3, h4⟩, h5⟩
    · rintro ⟨mid, ⟨h1, h2, h3, h4⟩, h5⟩; exact ⟨h1, h2, h3, mid, h4, h5⟩
theorem Lay.le {l : List BlkS} {o hi : Nat} (h : Lay o l hi) : o ≤ hi := by
  induction l generalizing o with
  | nil => exact Nat.le_of_eq h
  | cons b l ih => obtain ⟨_, _, _, h4⟩ := h; have := ih h4; omega
theorem Lay.mem {l : List BlkS} {o hi : Nat} (h : Lay o l hi) {b : BlkS} (hb : b ∈ l) : o ≤ b.o ∧ b.o + b.size ≤ hi ∧ 16 ≤ b.size ∧ b.size % 16 = 0 := by
  induction l generalizing o with
  | nil => cases hb
  | cons c l ih =>
    obtain ⟨h1, h2, h3, h4⟩ := h
    rcases List.mem_cons.1 hb with rfl | hb
    · have := h4.le; omega
    · have := ih h4 hb; omega
theorem Lay.mod {l : List BlkS} {o hi : Nat} (h : Lay o l hi) (ho : o % 16 = 0) : hi % 16 = 0 := by
  induction l generalizing o with
  | nil => have : o = hi := h; omega
  | cons c l ih => obtain ⟨_, _, h3, h4⟩ := h; exact ih h4 (by omega)
theorem blks_lay {n : Nat} {M : List Pg} {base size : Nat} (F : Fl n M) (ht : base + size ≤ 4096 * n) (hs : size ≤ 65536) : ∀ (l : List BlkS) (f o : Nat), Lay o l size → Heads M base l → size - o ≤ f → blks M base size f o = .ok l
  | [], f, o, h, _, hf => by
    have : o = size := h
    subst this
    cases f with
    | zero => rfl
    | succ f => unfold blks; rw [if_pos (Nat.le_refl _)]
  | b :: l, f, o, h, hh, hf => by
    obtain ⟨h1, h2, h3, h4⟩ := h
    have hle := h4.le
    obtain ⟨f', rfl⟩ : ∃ f', f = f' + 1 := ⟨f - 1, by omega⟩
    unfold blks
    rw [if_neg (by omega)]
    have hw := hh b (by simp)
    rw [h1] at hw
    have hu : b.used.toNat ≤ 1 := Bool.toNat_le _
    have e0 : chk M (base + o) 8 1 = 0 := F.chk0 (k := 8) (.inl rfl) (by omega) (by omega) (by omega)
    have e1 : rdBlk M base size o = .ok b := by
      unfold rdBlk
      rw [if_neg (by rw [e0]; decide), hw]
      have e2 : b.size + b.used.toNat - (b.size + b.used.toNat) % 2 = b.size := by omega
      rw [e2, if_neg (by omega)]
      congr 1
      have e3 : decide ((b.size + b.used.toNat) % 2 = 1) = b.used := by
        cases hbu : b.used
        · simp; omega
        · simp; omega
      rw [e3, ← h1]
    rw [e1]
    dsimp only
    rw [blks_lay F ht hs l f' (o + b.size) h4 (fun c hc => hh c (List.mem_cons_of_mem _ hc)) (by omega)]
    rfl
theorem IsH.blks {n : Nat} {M : List Pg} {base size : Nat} {l : List BlkS} (h : IsH n M base size l) : blks M base size size 0 = .ok l :=
  blks_lay h.fl h.top h.small l _ _ h.lay h.heads (by omega)

section
variable {n : Nat} {M : List Pg} {base size : Nat}
/-- A head that is written. -/
theorem heads_wr (F : Fl n M) (ht : base + size ≤ 4096 * n) {l : List BlkS} (hh : Heads M base l) {x v : Nat} (hx : x + 8 ≤ size) (hl : ∀ b ∈ l, b.o + 8 ≤ size ∧ (b.o + 8 ≤ x ∨ x + 8 ≤ b.o)) : Heads (wrb M (base + x) (le 8 v)) base l := by
  intro b hb
  obtain ⟨h1, h2⟩ := hl b hb
  rw [F.hd_other (by rw [le_length]; omega) (by omega) (by rw [le_length]; omega)]
  exact hh b hb
theorem head_new (F : Fl n M) (ht : base + size ≤ 4096 * n) {b : BlkS} (hb : b.o + 8 ≤ size) (hs : b.size ≤ 65536) : hdW (wrb M (base + b.o) (le 8 (b.size + b.used.toNat))) (base + b.o) = b.size + b.used.toNat := by
  have hu : b.used.toNat ≤ 1 := Bool.toNat_le _
  exact F.hd_same (by omega) (by omega)

/-- What is left of a block. -/
def rest (b : BlkS) (need : Nat) : List BlkS := if need < b.size then [⟨b.o + need, b.size - need, false⟩] else []
theorem IsH.take {l1 l2 : List BlkS} {b : BlkS} (h : IsH n M base size (l1 ++ b :: l2)) {need : Nat} (h1 : 16 ≤ need) (h2 : need ≤ b.size) (h3 : need % 16 = 0) :
    IsH n (takeM M base b need) base size (l1 ++ ⟨b.o, need, true⟩ :: (rest b need ++ l2)) := by
  obtain ⟨F, ht, hs, hl, hh⟩ := h
  obtain ⟨mid, hl1, hb1, hb2, hb3, hl2⟩ := Lay.app.1 hl
  have hle1 := hl1.le
  have hle2 := hl2.le
  have hh1 : Heads M base l1 := fun c hc => hh c (by simp [hc])
  have hh2 : Heads M base l2 := fun c hc => hh c (by simp [hc])
  have f1 : ∀ c ∈ l1, c.o + 16 ≤ mid := fun c hc => by have := hl1.mem hc; omega
  have f2 : ∀ c ∈ l2, mid + b.size ≤ c.o ∧ c.o + 16 ≤ size := fun c hc => by have := hl2.mem hc; omega
  unfold takeM rest
  by_cases hlt : need < b.size
  · rw [if_pos hlt, if_pos hlt, show base + b.o + need = base + (b.o + need) by omega]
    have F1 := F.wrb (base + (b.o + need)) (le 8 (b.size - need))
    refine ⟨F1.wrb _ _, ht, hs, ?_, ?_⟩
    · refine Lay.app.2 ⟨mid, hl1, hb1, h1, h3, ?_⟩
      simp only [List.cons_append, List.nil_append, Lay]
      refine ⟨by omega, by omega, by omega, ?_⟩
      rw [show mid + need + (b.size - need) = mid + b.size by omega]
      exact hl2
    · have A : Heads (wrb M (base + (b.o + need)) (le 8 (b.size - need))) base (l1 ++ (⟨b.o + need, b.size - need, false⟩ :: l2)) := by
        intro c hc
        rcases List.mem_append.1 hc with hc | hc
        · exact heads_wr F ht hh1 (by omega) (fun c hc => by have := f1 c hc; omega) c hc
        · rcases List.mem_cons.1 hc with rfl | hc
          · exact head_new F ht (b := ⟨b.o + need, b.size - need, false⟩) (by show b.o + need + 8 ≤ size; omega) (by show b.size - need ≤ 65536; omega)
          · exact heads_wr F ht hh2 (by omega) (fun c hc => by have := f2 c hc; omega) c hc
      intro c hc
      have hc' : c = ⟨b.o, need, true⟩ ∨ c ∈ l1 ++ (⟨b.o + need, b.size - need, false⟩ :: l2) := by
        simp only [List.mem_append, List.mem_cons, List.cons_append, List.nil_append] at hc ⊢
        rcases hc with hc | hc | hc | hc
        · exact .inr (.inl hc)
        · exact .inl hc
        · exact .inr (.inr (.inl hc))
        · exact .inr (.inr (.inr hc))
      rcases hc' with rfl | hc
      · exact head_new F1 ht (b := ⟨b.o, need, true⟩) (by show b.o + 8 ≤ size; omega) (by show need ≤ 65536; omega)
      · refine heads_wr F1 ht A (x := b.o) (v := need + 1) (by omega) (fun c hc => ?_) c hc
        rcases List.mem_append.1 hc with hc | hc
        · have := f1 c hc; omega
        · rcases List.mem_cons.1 hc with rfl | hc
          · dsimp only; omega
          · have := f2 c hc; omega
  · rw [if_neg hlt, if_neg hlt]
    refine ⟨F.wrb _ _, ht, hs, ?_, ?_⟩
    · refine Lay.app.2 ⟨mid, hl1, hb1, h1, h3, ?_⟩
      rw [List.nil_append, show need = b.size by omega]
      exact hl2
    · intro c hc
      rw [List.nil_append] at hc
      rcases List.mem_append.1 hc with hc | hc
      · exact heads_wr F ht hh1 (by omega) (fun c hc => by have := f1 c hc; omega) c hc
      · rcases List.mem_cons.1 hc with rfl | hc
        · exact head_new F ht (b := ⟨b.o, need, true⟩) (by show b.o + 8 ≤ size; omega) (by show need ≤ 65536; omega)
        · exact heads_wr F ht hh2 (by omega) (fun c hc => by have := f2 c hc; omega) c hc
/-- Blocks made one. -/
theorem IsH.merge {l1 ms l2 : List BlkS} (h : IsH n M base size (l1 ++ (ms ++ l2))) {o z : Nat} (hm : Lay o ms (o + z)) (hz : 16 ≤ z) :
    IsH n (wrb M (base + o) (le 8 z)) base size (l1 ++ ⟨o, z, false⟩ :: l2) := by
  obtain ⟨F, ht, hs, hl, hh⟩ := h
  obtain ⟨mid, hl1, hlm⟩ := Lay.app.1 hl
  obtain ⟨mid2, hl2, hl3⟩ := Lay.app.1 hlm
  have hmo : mid = o ∧ mid2 = o + z := by
    have key : ∀ (ms : List BlkS) (a b c : Nat), ms ≠ [] → Lay a ms c → Lay b ms (b + z) → a = b ∧ c = a + z := by
      intro ms a b c hne h1 h2
      cases ms with
      | nil => exact absurd rfl hne
      | cons x ms =>
        obtain ⟨p1, p2, p3, p4⟩ := h1
        obtain ⟨q1, q2, q3, q4⟩ := h2
        have hab : a = b := by omega
        subst hab
        refine ⟨rfl, ?_⟩
        have uniq : ∀ (ms : List BlkS) (a c d : Nat), Lay a ms c → Lay a ms d → c = d := by
          intro ms
          induction ms with
          | nil => intro a c d h1 h2; exact (show a = c from h1).symm.trans h2
          | cons y ms ih => intro a c d h1 h2; exact ih _ _ _ h1.2.2.2 h2.2.2.2
        exact uniq _ _ _ _ p4 q4
    have hne : ms ≠ [] := by
      rintro rfl
      have : o = o + z := hm
      omega
    obtain ⟨k1, k2⟩ := key ms mid o mid2 hne hl2 hm
    exact ⟨k1, by omega⟩
  obtain ⟨rfl, rfl⟩ := hmo
  have hle1 := hl1.le
  have hle3 := hl3.le
  have hh1 : Heads M base l1 := fun c hc => hh c (by simp [hc])
  have hh2 : Heads M base l2 := fun c hc => hh c (by simp [hc])
  have f1 : ∀ c ∈ l1, c.o + 16 ≤ mid := fun c hc => by have := hl1.mem hc; omega
  have f2 : ∀ c ∈ l2, mid + z ≤ c.o ∧ c.o + 16 ≤ size := fun c hc => by have := hl3.mem hc; omega
  have hzm : z % 16 = 0 := by
    have key : ∀ (ms : List BlkS) (a c : Nat), Lay a ms c → (c - a) % 16 = 0 := by
      intro ms
      induction ms with
      | nil => intro a c h; have : a = c := h; omega
      | cons y ms ih => intro a c h; obtain ⟨p1, p2, p3, p4⟩ := h; have := ih _ _ p4; have := p4.le; omega
    have := key _ _ _ hm
    omega
  refine ⟨F.wrb _ _, ht, hs, Lay.app.2 ⟨mid, hl1, rfl, hz, hzm, hl3⟩, ?_⟩
  intro c hc
  rcases List.mem_append.1 hc with hc | hc
  · exact heads_wr F ht hh1 (by omega) (fun c hc => by have := f1 c hc; omega) c hc
  · rcases List.mem_cons.1 hc with rfl | hc
    · exact head_new F ht (b := ⟨mid, z, false⟩) (by show mid + 8 ≤ size; omega) (by show z ≤ 65536; omega)
    · exact heads_wr F ht hh2 (by omega) (fun c hc => by have := f2 c hc; omega) c hc
end
end Go.Proofs.Ytjbphdjheklhbaa
