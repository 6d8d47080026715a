/-
  LruAges: what the order of the entries says.
-/
import Derived.Test.YtfjdgjdkpmljkaaLru5
namespace Go.Proofs.Ytfjdgjdkpmljkaa
open Go.RowKit Go.Shelf

def InZ (zs : List Int) (x : Nat) : Bool := decide ((x : Int) ∈ zs)
def outs (zs : List Int) (L : List Nat) : List Nat := L.filter (fun x => !InZ zs x)

theorem outs_nil (L : List Nat) : outs [] L = L := List.filter_eq_self.2 (by simp [InZ])
theorem outs_mem {zs : List Int} {L : List Nat} {x : Nat} : x ∈ outs zs L ↔ x ∈ L ∧ (x : Int) ∉ zs := by simp [outs, InZ]
theorem erase_filter {L : List Nat} (hn : L.Nodup) (z : Nat) : L.erase z = L.filter (fun x => x != z) := by
  rw [hn.erase_eq_filter]
theorem outs_erase {zs : List Int} {L : List Nat} (hn : L.Nodup) {z : Int} (hz : 0 ≤ z) : outs zs (L.erase z.toNat) = outs (z :: zs) L := by
  rw [erase_filter hn]
  unfold outs
  rw [List.filter_filter]
  apply List.filter_congr
  intro x _
  unfold InZ
  by_cases h : x = z.toNat
  · subst h
    have : ((z.toNat : Nat) : Int) = z := by omega
    simp [this]
  · have : ¬ (x : Int) = z := by omega
    simp [h, this]
theorem outs_skip {zs : List Int} {L : List Nat} {z : Int} (hz : ∀ x ∈ L, (x : Int) ≠ z) : outs zs L = outs (z :: zs) L := by
  apply List.filter_congr
  intro x hx
  unfold InZ
  simp [hz x hx]

theorem remL_outs : ∀ (zs : List Int) (L : List Nat), L.Nodup → (remL L zs).1 = outs zs L
  | [], L, _ => by rw [outs_nil]; rfl
  | z :: zs, L, hn => by
    simp only [remL]
    by_cases h : 0 ≤ z ∧ z.toNat ∈ L
    · rw [if_pos h]
      simp only
      rw [remL_outs zs _ (hn.erase _), outs_erase hn h.1]
    · rw [if_neg h, remL_outs zs L hn]
      refine outs_skip fun x hx e => h ⟨by omega, ?_⟩
      rw [← e]; simpa using hx

theorem nodup_push {L : List Nat} (hn : L.Nodup) (z : Nat) : (L.erase z ++ [z]).Nodup := by
  rw [List.nodup_append]
  refine ⟨hn.erase _, by simp, ?_⟩
  intro a ha b hb e
  simp at hb
  subst hb e
  exact hn.not_mem_erase ha

theorem addL_outs : ∀ (zs : List Int) (L : List Nat), L.Nodup → (∀ x ∈ L, 1 ≤ x ∧ x ≤ 512) → ∃ T, (addL L zs).1 = outs zs L ++ T ∧ ∀ t ∈ T, (t : Int) ∈ zs
  | [], L, _, _ => ⟨[], by rw [outs_nil, List.append_nil]; rfl, by simp⟩
  | z :: zs, L, hn, hb => by
    simp only [addL]
    by_cases h : 1 ≤ z ∧ z ≤ 512
    · rw [if_pos h]
      simp only
      obtain ⟨T, h1, h2⟩ := addL_outs zs (L.erase z.toNat ++ [z.toNat]) (nodup_push hn _) (by
        intro x hx
        rcases List.mem_append.1 hx with hx | hx
        · exact hb x (List.mem_of_mem_erase hx)
        · simp at hx; omega)
      refine ⟨outs zs [z.toNat] ++ T, ?_, ?_⟩
      · rw [h1, ← List.append_assoc]
        congr 1
        unfold outs
        rw [List.filter_append]
        congr 1
        exact outs_erase hn (by omega)
      · intro t ht
        rcases List.mem_append.1 ht with ht | ht
        · have := (outs_mem.1 ht).1
          simp at this
          subst this
          have : ((z.toNat : Nat) : Int) = z := by omega
          rw [this]; simp
        · exact List.mem_cons_of_mem _ (h2 t ht)
    · rw [if_neg h]
      obtain ⟨T, h1, h2⟩ := addL_outs zs L hn hb
      refine ⟨T, ?_, fun t ht => List.mem_cons_of_mem _ (h2 t ht)⟩
      rw [h1]
      congr 1
      refine outs_skip fun x hx e => h ?_
      have := hb x hx
      omega

theorem addL_bd : ∀ (zs : List Int) (L : List Nat), (∀ x ∈ L, 1 ≤ x ∧ x ≤ 512) → ∀ x ∈ (addL L zs).1, 1 ≤ x ∧ x ≤ 512
  | [], _, hb => hb
  | z :: zs, L, hb => by
    simp only [addL]
    by_cases h : 1 ≤ z ∧ z ≤ 512
    · rw [if_pos h]
      refine addL_bd zs _ fun x hx => ?_
      rcases List.mem_append.1 hx with hx | hx
      · exact hb x (List.mem_of_mem_erase hx)
      · simp at hx; omega
    · rw [if_neg h]; exact addL_bd zs L hb
theorem addL_sub : ∀ (zs : List Int) (L : List Nat), ∀ x ∈ L, x ∈ (addL L zs).1
  | [], _, _, hx => hx
  | z :: zs, L, x, hx => by
    simp only [addL]
    by_cases h : 1 ≤ z ∧ z ≤ 512
    · rw [if_pos h]
      refine addL_sub zs _ x ?_
      by_cases hxz : x = z.toNat
      · subst hxz; simp
      · exact List.mem_append_left _ ((List.mem_erase_of_ne hxz).2 hx)
    · rw [if_neg h]; exact addL_sub zs L x hx

/-- What is said of the lists: was, the numbers, now. -/
structure Aged (L : List Nat) (zs : List Int) (out : Bool) (M : List Nat) : Prop where
  told : ∀ x ∈ L, (x : Int) ∈ zs → (out = true → atI (nats M) x = -1) ∧ (out = false → 0 ≤ atI (nats M) x)
  stays : ∀ i, i < L.length → ((L.getD i 0 : Nat) : Int) ∉ zs → atI (nats M) (L.getD i 0 : Nat) = (outs zs (L.take i)).length
  late : ∀ z ∈ zs, 0 ≤ atI (nats M) z → ((outs zs L).length : Int) ≤ atI (nats M) z

theorem atI_ge {xs : List Int} {z : Int} : -1 ≤ atI xs z := by unfold atI; split <;> omega
theorem outs_take {zs : List Int} {L : List Nat} {i : Nat} (hi : i < L.length) : outs zs (L.take (i + 1)) = outs zs (L.take i) ++ (if ((L.getD i 0 : Nat) : Int) ∈ zs then [] else [L.getD i 0]) := by
  have h : L.take (i + 1) = L.take i ++ [L.getD i 0] := by
    rw [List.take_add_one]; simp [List.getD, List.getElem?_eq_getElem hi]
  rw [h]
  unfold outs
  rw [List.filter_append]
  congr 1
  unfold InZ
  by_cases h : ((L.getD i 0 : Nat) : Int) ∈ zs
  · rw [if_pos h]; simp only [List.filter, h, decide_true, Bool.not_true]
  · rw [if_neg h]; simp only [List.filter, h, decide_false, Bool.not_false]

theorem Aged.mk' {L : List Nat} {zs : List Int} {out : Bool} {T : List Nat} (hn : L.Nodup) (h1 : out = true → T = []) (h2 : out = false → ∀ x ∈ L, x ∈ outs zs L ++ T) : Aged L zs out (outs zs L ++ T) := by
  have hout : ∀ z ∈ zs, z ∉ nats (outs zs L) := by
    intro z hz hm
    have h3 := (nats_mem'.1 hm)
    have := (outs_mem.1 h3.2).2
    rw [show ((z.toNat : Nat) : Int) = z by omega] at this
    exact this hz
  refine ⟨?_, ?_, ?_⟩
  · intro x hx hz
    refine ⟨fun ho => ?_, fun ho => ?_⟩
    · rw [h1 ho, List.append_nil]
      exact if_neg (hout _ hz)
    · have := h2 ho x hx
      unfold atI
      rw [if_pos (nats_mem'.2 ⟨by omega, by simpa using this⟩)]
      omega
  · intro i hi hz
    have hx : L = L.take i ++ L.getD i 0 :: L.drop (i + 1) := by simp [List.getD, List.getElem?_eq_getElem hi]
    generalize hA : L.take i = A at *
    generalize hB : L.drop (i + 1) = B at *
    generalize hy : L.getD i 0 = y at *
    have hyA : y ∉ outs zs A := by
      intro h
      have h4 := (outs_mem.1 h).1
      rw [hx, List.nodup_append] at hn
      exact hn.2.2 y h4 y (by simp) rfl
    have : outs zs L ++ T = outs zs A ++ y :: (outs zs B ++ T) := by
      rw [hx]
      unfold outs
      rw [List.filter_append, List.filter_cons_of_pos (by simp [InZ, hz]), List.append_assoc]
      rfl
    rw [this]
    exact atI_natsI hyA
  · intro z hz h0
    have hm : z ∈ nats (outs zs L ++ T) := by
      unfold atI at h0
      split at h0
      · assumption
      · omega
    unfold atI
    rw [if_pos hm]
    have : nats (outs zs L ++ T) = nats (outs zs L) ++ nats T := by simp [nats]
    rw [this, List.idxOf_append, if_neg (hout z hz), nats_length']
    omega
theorem Aged.rem {L : List Nat} {zs : List Int} (hn : L.Nodup) : Aged L zs true (remL L zs).1 := by
  rw [remL_outs zs L hn]
  have := Aged.mk' (L := L) (zs := zs) (out := true) (T := []) hn (fun _ => rfl) (fun h => by cases h)
  rwa [List.append_nil] at this
theorem Aged.add {L : List Nat} {zs : List Int} (hn : L.Nodup) (hb : ∀ x ∈ L, 1 ≤ x ∧ x ≤ 512) : Aged L zs false (addL L zs).1 := by
  obtain ⟨T, h1, _⟩ := addL_outs zs L hn hb
  have hs := addL_sub zs L
  rw [h1] at hs ⊢
  exact Aged.mk' hn (fun h => by cases h) (fun _ => hs)
end Go.Proofs.Ytfjdgjdkpmljkaa
