/-
  Package heap: Free.
-/
import Derived.Test.YtjbphdjheklhbaaHp7
namespace Go.Proofs.Ytjbphdjheklhbaa
open Go.RowKit

def isAt (base a : Nat) (b : BlkS) : Bool := b.used && decide (base + b.o + 8 = a)
def nextFree (l : List BlkS) (i : Nat) : Nat := match l[i + 1]? with
  | some c => if c.used then 0 else c.size
  | none => 0
def prevFree (l : List BlkS) (i : Nat) : Option BlkS := if i = 0 then none else match l[i - 1]? with
  | some c => if c.used then none else some c
  | none => none
def freeO (l : List BlkS) (i : Nat) (b : BlkS) : Nat := match prevFree l i with
  | some c => c.o
  | none => b.o
def freeZ (l : List BlkS) (i : Nat) (b : BlkS) : Nat := match prevFree l i with
  | some c => b.size + nextFree l i + c.size
  | none => b.size + nextFree l i
/-- Where the first block is of which something is so. -/
def idxOf (p : BlkS → Bool) (l : List BlkS) : Option Nat := l.findIdx? p
def freeE : Option Nat → Nat
  | some _ => 0
  | none => 6
def freeM (M : List Pg) (base : Nat) (l : List BlkS) : Option Nat → List Pg
  | some i => match l[i]? with
    | some b => wrb M (base + freeO l i b) (le 8 (freeZ l i b))
    | none => M
  | none => M
theorem idx_stop {p : BlkS → Bool} {l : List BlkS} {k : Nat} {x : BlkS} (hk : l[k]? = some x) (h0 : ∀ (j : Nat) y, j < k → l[j]? = some y → p y = false) (hx : p x = true) : idxOf p l = some k := by
  unfold idxOf
  rw [List.findIdx?_eq_some_iff_getElem]
  obtain ⟨hl, he⟩ := List.getElem?_eq_some_iff.1 hk
  refine ⟨hl, by rw [he]; exact hx, fun j hj => ?_⟩
  simp [h0 j _ hj (List.getElem?_eq_getElem (by omega))]
theorem idx_none {p : BlkS → Bool} {l : List BlkS} (h0 : ∀ (j : Nat) y, l[j]? = some y → p y = false) : idxOf p l = none := by
  unfold idxOf
  rw [List.findIdx?_eq_none_iff]
  intro y hy
  obtain ⟨j, hj⟩ := List.mem_iff_getElem?.1 hy
  exact h0 j y hj

section
variable {e : Env} {w : World} {R : List HP} {m n : Nat} {M : List Pg}
set_option maxRecDepth 100000 in
set_option maxHeartbeats 4000000 in
theorem hpFree {h base size : Nat} (a : Nat) (ha : a < 18446744073709551616) {l : List BlkS} (F : Fl n M) (hsz : base + size ≤ 4096 * n) (hs6 : size ≤ 65536) (hl : blks M base size size 0 = .ok l)
    (hfit : ∀ (i : Nat) b, l[i]? = some b → freeO l i b + 8 ≤ size ∧ freeZ l i b ≤ 65536) (H : Holds e w (pts h (hpObj m base size) :: modH m M :: R)) :
    Calls Try.prog 16 #[.pointer (some ⟨h, 0, none⟩), .int .u64 a] w
      (Ret e (.int .i64 (freeE (idxOf (isAt base a) l))) (pts h (hpObj m base size) :: modH m (freeM M base l (idxOf (isAt base a) l)) :: R)) := by
  have hsm := F.small
  have CB := Lib.hid (hpBlocks (by omega) hs6 H)
  rw [hl] at CB
  have hok := listOf_ok M base size
  rw [hl] at hok
  simp only [listOf, errOf] at CB hok
  obtain ⟨hbs, hll⟩ := hok
  have HBS := Lib.hid hbs
  have HFIT := Lib.hid hfit
  have CP : Hid (∀ w' X b, b ∈ l → Holds e w' (pts h (hpObj m base size) :: X) → Calls Try.prog 48 #[.pointer (some ⟨h, 0, none⟩), b.val base] w' (Ret e (.int .i64 b.o) (pts h (hpObj m base size) :: X))) := Lib.hid fun w' X b hb h' =>
    hpPlace b (by have := (hbs b hb).2.2; omega) (by have := (hbs b hb).2.2; omega) h'
  have CW : Hid (∀ (w' : World) (X : List HP) (at' sz : Nat), at' + 8 ≤ size → sz ≤ 65536 → Holds e w' (pts h (hpObj m base size) :: modH m M :: X) → Calls Try.prog 47 #[.pointer (some ⟨h, 0, none⟩), .int .i64 at', .int .i64 sz, .bool false] w' (Ret e (.int .i64 0) (pts h (hpObj m base size) :: modH m (wrb M (base + at') (le 8 sz)) :: X))) := Lib.hid fun w' X at' sz h1 h2 h' => by
    have := hpWrite at' sz (by omega) (by omega) h2 false h'
    have h0 : chk M (base + at') 8 2 = 0 := F.chk0 (k := 8) (.inr rfl) (by omega) (by omega) (by omega)
    rw [F.sto (by rw [le_length]; omega) (by rw [le_length]; omega) (by rw [le_length]; omega), h0] at this
    simpa using this
  obtain ⟨len, hlen⟩ : ∃ len, l.length = len := ⟨_, rfl⟩
  have HLEN := Lib.hid hlen
  rw [hlen] at CB hll
  clear H hbs hl hfit hlen
  go_enter Try.func16, Try.ntmps16
  go_wp2_with fail
  refine CB.out.mono ?_
  rintro en w1 ⟨v, rfl, H1⟩
  obtain ⟨av, cv, rfl⟩ := row_shape H1
  clear CB
  go_wp2_with fail
  go_loopw [21] (fun i wr => ∃ j : Nat, j ≤ len ∧ i = .int .i64 (j : Nat) ∧ Hid (∀ (i : Nat) y, i < j → l[i]? = some y → isAt base a y = false) ∧ Holds e wr (row (.slice av len cv) 53 3 len (l.flatMap (bcells base)) :: pts h (hpObj m base size) :: modH m M :: R)) (fun i _ => len - (Go.RowKit.intOf i).toNat)
  case atStart => exact ⟨0, by omega, rfl, Lib.hid (fun i y hi => by omega), H1⟩
  case round =>
    obtain ⟨j, hj, rfl, hz, HX⟩ := hrel
    by_cases hlt : j < len
    · obtain ⟨b, hbk⟩ : ∃ b, l[j]? = some b := ⟨_, List.getElem?_eq_getElem (by rw [HLEN.out]; omega)⟩
      have hbm := List.mem_of_getElem? hbk
      obtain ⟨hb1, hb2, hb3⟩ := HBS.out b hbm
      obtain ⟨g, of', rfl, hr⟩ := (row.reads HX).at (by omega)
      have c0 : wr.cell? ⟨g, of' + j * 3, none⟩ = some (.int .u64 ((base + b.o + 8 : Nat) : Int)) := hr _ _ (bcells_at hbk 0 (by omega))
      have c1 : wr.cell? ⟨g, of' + j * 3 + 1, none⟩ = some (.int .i64 b.size) := by rw [Nat.add_assoc]; exact hr _ _ (bcells_at hbk 1 (by omega))
      have c2 : wr.cell? ⟨g, of' + j * 3 + 2, none⟩ = some (.bool b.used) := by rw [Nat.add_assoc]; exact hr _ _ (bcells_at hbk 2 (by omega))
      have HST : Hid (isAt base a b = true → idxOf (isAt base a) l = some j) := Lib.hid fun hf => idx_stop hbk (fun i y hi hy => hz.out i y hi hy) hf
      have HZ : Hid (isAt base a b = false → ∀ (i : Nat) y, i < j + 1 → l[i]? = some y → isAt base a y = false) := Lib.hid fun hf i y hi hy => by
        rcases Nat.lt_succ_iff_lt_or_eq.1 hi with hi | rfl
        · exact hz.out i y hi hy
        · rw [hbk] at hy; cases hy; exact hf
      have HRD : Hid (∀ w' X, Holds e w' (pts h (hpObj m base size) :: row (.slice (some ⟨g, of', none⟩) len cv) 53 3 len (l.flatMap (bcells base)) :: X) → ∀ (k : Nat) c, l[k]? = some c →
          w'.cell? ⟨g, of' + k * 3, none⟩ = some (.int .u64 ((base + c.o + 8 : Nat) : Int)) ∧ w'.cell? ⟨g, of' + k * 3 + 1, none⟩ = some (.int .i64 c.size) ∧ w'.cell? ⟨g, of' + k * 3 + 2, none⟩ = some (.bool c.used)) := Lib.hid fun w' X h' k c hc => by
        obtain ⟨g2, o2, hg, hr2⟩ := (row.reads h'.swap).at (by omega)
        cases hg
        exact ⟨hr2 _ _ (bcells_at hc 0 (by omega)), by rw [Nat.add_assoc]; exact hr2 _ _ (bcells_at hc 1 (by omega)), by rw [Nat.add_assoc]; exact hr2 _ _ (bcells_at hc 2 (by omega))⟩
      have CPb := Lib.hid (fun w' X h' => CP.out w' X b hbm h')
      have HBK := Lib.hid hbk
      have HFI := Lib.hid (HFIT.out j b hbk)
      have HEQ : Hid (isAt base a b = (b.used && decide (base + b.o + 8 = a))) := Lib.hid rfl
      have HFM : Hid (isAt base a b = true → freeE (idxOf (isAt base a) l) = 0 ∧ freeM M base l (idxOf (isAt base a) l) = wrb M (base + freeO l j b) (le 8 (freeZ l j b))) := Lib.hid fun hf => by
        rw [HST.out hf]
        unfold freeE freeM
        dsimp only
        rw [hbk]
        exact ⟨rfl, rfl⟩
      obtain ⟨fo, hfo⟩ : ∃ fo, freeO l j b = fo := ⟨_, rfl⟩
      obtain ⟨fz, hfz⟩ : ∃ fz, freeZ l j b = fz := ⟨_, rfl⟩
      have HFO : Hid (freeO l j b = fo ∧ freeZ l j b = fz) := Lib.hid ⟨hfo, hfz⟩
      rw [hfo, hfz] at HFM HFI
      unfold BlkS.val at CPb
      obtain ⟨t, ht⟩ : ∃ t, base + b.o + 8 = t := ⟨_, rfl⟩
      rw [ht] at c0 CPb HEQ
      obtain ⟨bx, hbx⟩ : ∃ bx, wr.heap.size = bx := ⟨_, rfl⟩
      have HN : Holds e (wr.alloc (.cells #[.int .u64 t, .int .i64 b.size, .bool b.used] 53)) (pts h (hpObj m base size) :: row (.slice (some ⟨g, of', none⟩) len cv) 53 3 len (l.flatMap (bcells base)) :: pts bx (.cells #[.int .u64 t, .int .i64 b.size, .bool b.used] 53) :: modH m M :: R) := hbx ▸ (HX.alloc _).re 4 [2, 1, 0, 3]
      have HD := Lib.hid (HN.re 4 [1, 0, 3])
      by_cases hat : t = a
      · subst hat
        rcases hbu : b.used with _ | _
        · have hf := HZ.out (by rw [HEQ.out, hbu]; rfl)
          have HF := Lib.hid hf
          rw [hbu] at c2 HD
          clear hr hbk ht HX HN HZ HST hz hf hfo hfz CPb HEQ HFM HFO HFI hbu
          subst hbx
          go_wp2_with fail
          go_roundw
          case rel => exact ⟨j + 1, by omega, by go_num, HF, HD.out⟩
          case measure => simp [Go.RowKit.intOf]; omega
        · obtain ⟨hFE, hFM⟩ := HFM.out (by rw [HEQ.out, hbu]; simp)
          have HFE := Lib.hid hFE
          have HFM2 := Lib.hid hFM
          rw [hbu] at c2 HN CPb
          clear hr hbk ht HX HZ HST hz hfo hfz HEQ HFM hFE hFM HD
          obtain ⟨fi1, fi2⟩ := HFI.out
          subst hbx
          go_wp2_with fail
          obtain ⟨I, Wf, hI, hW, hWs⟩ := worlds_of HN
          have r0 : ∀ i, (Wf i).cell? ⟨wr.heap.size, 0, none⟩ = some (.int .u64 t) := fun i => (hW i).p2.cells 0
          have r1 : ∀ i, (Wf i).cell? ⟨wr.heap.size, 1, none⟩ = some (.int .i64 b.size) := fun i => (hW i).p2.cells 1
          have r2 : ∀ i, (Wf i).cell? ⟨wr.heap.size, 2, none⟩ = some (.bool true) := fun i => (hW i).p2.cells 2
          refine wp_region_holds hWs HN (by kernel_rfl) (by kernel_rfl) ?_
          (repeat (go_big_quiet_step ((go_at_call 48; exact quietH (CPb.out _ _ (hW _)) hWs)))); refine wpQuiet_nil ?_; intro _ hw'; obtain ⟨nq, hw''⟩ := hw'; subst hw''
          have H8 := hW nq
          generalize Wf nq = w8 at H8
          clear r0 r1 r2 hW hWs HN CPb c0 c1 c2
          have hz2 : fz = b.size + nextFree l j + (match prevFree l j with | some c => c.size | none => 0) := by
            rw [← HFO.out.2]
            unfold freeZ
            cases prevFree l j <;> rfl
          by_cases hn : j + 1 < len
          · obtain ⟨c, hck⟩ : ∃ c, l[j + 1]? = some c := ⟨_, List.getElem?_eq_getElem (by rw [HLEN.out]; omega)⟩
            obtain ⟨hc1, hc2, hc3⟩ := HBS.out c (List.mem_of_getElem? hck)
            obtain ⟨m0, m1, m2⟩ := HRD.out _ _ H8 _ _ hck
            have hd1 : decide ((j : Int) + 1 < (len : Int)) = true := by simp; omega
            rcases hcu : c.used with _ | _
            · rw [hcu] at m2
              have hnf : nextFree l j = c.size := by unfold nextFree; rw [hck]; dsimp only; rw [hcu]; rfl
              have es : (b.size : Int) + (c.size : Int) = ((b.size + c.size : Nat) : Int) := by omega
              obtain ⟨s2, hs2⟩ : ∃ s2, b.size + c.size = s2 := ⟨_, rfl⟩
              rw [hs2] at es
              rw [hnf, hs2] at hz2
              clear hnf hck hs2 hcu
              by_cases hj0 : j = 0
              · have hpf : prevFree l j = none := by unfold prevFree; rw [if_pos hj0]
                have hfo2 : fo = b.o := by rw [← HFO.out.1]; unfold freeO; rw [hpf]
                rw [hpf] at hz2
                simp only [Nat.add_zero] at hz2
                subst hj0 hfo2 hz2
                clear hpf HFO
                go_wp2_with fail
                refine (CW.out _ _ (b.o) (fz) (by omega) (by omega) (Holds.re 4 [0, 3, 1, 2] H8)).mono ?_
                rintro en w10 ⟨rfl, H10⟩
                have H11 : Holds e w10 (pts h (hpObj m base size) :: modH m (wrb M (base + (b.o)) (le 8 (fz))) :: R) := H10.re 4 [0, 1]
                clear H10 CW HRD
                go_wp2_with fail
                go_ret
                exact ⟨by rw [HFE.out]; rfl, by rw [HFM2.out]; exact H11⟩
              · obtain ⟨j', hj'⟩ : ∃ j', j = j' + 1 := ⟨j - 1, by omega⟩
                have hjj : (j : Int) - 1 = (j' : Int) := by omega
                have hjl : (j' : Int) < (len : Int) := by omega
                have hjm : (0 : Int) ≤ (j' : Int) := by omega
                have hjs : j - 1 = j' := by omega
                have hj00 : decide ((0 : Int) < (j : Int)) = true := by simp; omega
                obtain ⟨p, hpk⟩ : ∃ p, l[j']? = some p := ⟨_, List.getElem?_eq_getElem (by rw [HLEN.out]; omega)⟩
                obtain ⟨hp1, hp2, hp3⟩ := HBS.out p (List.mem_of_getElem? hpk)
                obtain ⟨p0, p1, p2⟩ := HRD.out _ _ H8 _ _ hpk
                rcases hpu : p.used with _ | _
                · rw [hpu] at p2
                  have hpf : prevFree l j = some p := by unfold prevFree; rw [if_neg hj0, hjs, hpk]; dsimp only; rw [hpu]; rfl
                  have hfo2 : fo = p.o := by rw [← HFO.out.1]; unfold freeO; rw [hpf]
                  rw [hpf] at hz2
                  dsimp only at hz2
                  have es2 : (s2 : Int) + (p.size : Int) = (fz : Int) := by omega
                  have hz3 := hz2.symm
                  clear hz2
                  have CPp := Lib.hid (fun w' X h' => CP.out w' X p (List.mem_of_getElem? hpk) h')
                  unfold BlkS.val at CPp
                  have HPC : Hid (∀ w' X, Holds e w' (pts h (hpObj m base size) :: row (.slice (some ⟨g, of', none⟩) len cv) 53 3 len (l.flatMap (bcells base)) :: X) →
                        w'.cell? ⟨g, of' + j' * 3, none⟩ = some (.int .u64 ((base + p.o + 8 : Nat) : Int)) ∧ w'.cell? ⟨g, of' + j' * 3 + 1, none⟩ = some (.int .i64 p.size) ∧ w'.cell? ⟨g, of' + j' * 3 + 2, none⟩ = some (.bool false)) := Lib.hid fun w' X h' => by
                    have := HRD.out w' X h' j' p hpk
                    rw [hpu] at this
                    exact this
                  obtain ⟨tp, htp⟩ : ∃ tp, base + p.o + 8 = tp := ⟨_, rfl⟩
                  rw [htp] at p0 CPp HPC
                  rw [hpu] at CPp
                  subst hfo2
                  clear hpf HFO hpk htp hpu hj' hjs
                  go_wp2_with fail
                  obtain ⟨I, Wf, hI, hW, hWs⟩ := worlds_of H8
                  have r0 : ∀ i, (Wf i).cell? ⟨g, of' + j' * 3, none⟩ = some (.int .u64 tp) := fun i => (HPC.out _ _ (hW i)).1
                  have r1 : ∀ i, (Wf i).cell? ⟨g, of' + j' * 3 + 1, none⟩ = some (.int .i64 p.size) := fun i => (HPC.out _ _ (hW i)).2.1
                  have r2 : ∀ i, (Wf i).cell? ⟨g, of' + j' * 3 + 2, none⟩ = some (.bool false) := fun i => (HPC.out _ _ (hW i)).2.2
                  refine wp_region_holds hWs H8 (by kernel_rfl) (by kernel_rfl) ?_
                  (repeat (go_big_quiet_step ((go_at_call 48; exact quietH (CPp.out _ _ (hW _)) hWs)))); refine wpQuiet_nil ?_; intro _ hw'; obtain ⟨nq, hw''⟩ := hw'; subst hw''
                  have H9 := hW nq
                  generalize Wf nq = w9 at H9
                  clear r0 r1 r2 hW hWs H8 CPp HPC
                  go_wp2_with fail
                  refine (CW.out _ _ (p.o) (fz) (by omega) (by omega) (Holds.re 4 [0, 3, 1, 2] H9)).mono ?_
                  rintro en w10 ⟨rfl, H10⟩
                  have H11 : Holds e w10 (pts h (hpObj m base size) :: modH m (wrb M (base + (p.o)) (le 8 (fz))) :: R) := H10.re 4 [0, 1]
                  clear H10 CW HRD
                  go_wp2_with fail
                  go_ret
                  exact ⟨by rw [HFE.out]; rfl, by rw [HFM2.out]; exact H11⟩
                · rw [hpu] at p2
                  have hpf : prevFree l j = none := by unfold prevFree; rw [if_neg hj0, hjs, hpk]; dsimp only; rw [hpu]; rfl
                  have hfo2 : fo = b.o := by rw [← HFO.out.1]; unfold freeO; rw [hpf]
                  rw [hpf] at hz2
                  simp only [Nat.add_zero] at hz2
                  subst hfo2 hz2
                  clear hpf HFO hpk hpu hj' hjs
                  go_wp2_with fail
                  refine (CW.out _ _ (b.o) (fz) (by omega) (by omega) (Holds.re 4 [0, 3, 1, 2] H8)).mono ?_
                  rintro en w10 ⟨rfl, H10⟩
                  have H11 : Holds e w10 (pts h (hpObj m base size) :: modH m (wrb M (base + (b.o)) (le 8 (fz))) :: R) := H10.re 4 [0, 1]
                  clear H10 CW HRD
                  go_wp2_with fail
                  go_ret
                  exact ⟨by rw [HFE.out]; rfl, by rw [HFM2.out]; exact H11⟩
            · rw [hcu] at m2
              have hnf : nextFree l j = 0 := by unfold nextFree; rw [hck]; dsimp only; rw [hcu]; rfl
              obtain ⟨s2, hs2⟩ : ∃ s2, b.size = s2 := ⟨_, rfl⟩
              rw [hnf, Nat.add_zero, hs2] at hz2
              rw [hs2]
              clear hnf hck hcu
              by_cases hj0 : j = 0
              · have hpf : prevFree l j = none := by unfold prevFree; rw [if_pos hj0]
                have hfo2 : fo = b.o := by rw [← HFO.out.1]; unfold freeO; rw [hpf]
                rw [hpf] at hz2
                simp only [Nat.add_zero] at hz2
                subst hj0 hfo2 hz2
                clear hpf HFO
                go_wp2_with fail
                refine (CW.out _ _ (b.o) (fz) (by omega) (by omega) (Holds.re 4 [0, 3, 1, 2] H8)).mono ?_
                rintro en w10 ⟨rfl, H10⟩
                have H11 : Holds e w10 (pts h (hpObj m base size) :: modH m (wrb M (base + (b.o)) (le 8 (fz))) :: R) := H10.re 4 [0, 1]
                clear H10 CW HRD
                go_wp2_with fail
                go_ret
                exact ⟨by rw [HFE.out]; rfl, by rw [HFM2.out]; exact H11⟩
              · obtain ⟨j', hj'⟩ : ∃ j', j = j' + 1 := ⟨j - 1, by omega⟩
                have hjj : (j : Int) - 1 = (j' : Int) := by omega
                have hjl : (j' : Int) < (len : Int) := by omega
                have hjm : (0 : Int) ≤ (j' : Int) := by omega
                have hjs : j - 1 = j' := by omega
                have hj00 : decide ((0 : Int) < (j : Int)) = true := by simp; omega
                obtain ⟨p, hpk⟩ : ∃ p, l[j']? = some p := ⟨_, List.getElem?_eq_getElem (by rw [HLEN.out]; omega)⟩
                obtain ⟨hp1, hp2, hp3⟩ := HBS.out p (List.mem_of_getElem? hpk)
                obtain ⟨p0, p1, p2⟩ := HRD.out _ _ H8 _ _ hpk
                rcases hpu : p.used with _ | _
                · rw [hpu] at p2
                  have hpf : prevFree l j = some p := by unfold prevFree; rw [if_neg hj0, hjs, hpk]; dsimp only; rw [hpu]; rfl
                  have hfo2 : fo = p.o := by rw [← HFO.out.1]; unfold freeO; rw [hpf]
                  rw [hpf] at hz2
                  dsimp only at hz2
                  have es2 : (s2 : Int) + (p.size : Int) = (fz : Int) := by omega
                  have hz3 := hz2.symm
                  clear hz2
                  have CPp := Lib.hid (fun w' X h' => CP.out w' X p (List.mem_of_getElem? hpk) h')
                  unfold BlkS.val at CPp
                  have HPC : Hid (∀ w' X, Holds e w' (pts h (hpObj m base size) :: row (.slice (some ⟨g, of', none⟩) len cv) 53 3 len (l.flatMap (bcells base)) :: X) →
                        w'.cell? ⟨g, of' + j' * 3, none⟩ = some (.int .u64 ((base + p.o + 8 : Nat) : Int)) ∧ w'.cell? ⟨g, of' + j' * 3 + 1, none⟩ = some (.int .i64 p.size) ∧ w'.cell? ⟨g, of' + j' * 3 + 2, none⟩ = some (.bool false)) := Lib.hid fun w' X h' => by
                    have := HRD.out w' X h' j' p hpk
                    rw [hpu] at this
                    exact this
                  obtain ⟨tp, htp⟩ : ∃ tp, base + p.o + 8 = tp := ⟨_, rfl⟩
                  rw [htp] at p0 CPp HPC
                  rw [hpu] at CPp
                  subst hfo2
                  clear hpf HFO hpk htp hpu hj' hjs
                  go_wp2_with fail
                  obtain ⟨I, Wf, hI, hW, hWs⟩ := worlds_of H8
                  have r0 : ∀ i, (Wf i).cell? ⟨g, of' + j' * 3, none⟩ = some (.int .u64 tp) := fun i => (HPC.out _ _ (hW i)).1
                  have r1 : ∀ i, (Wf i).cell? ⟨g, of' + j' * 3 + 1, none⟩ = some (.int .i64 p.size) := fun i => (HPC.out _ _ (hW i)).2.1
                  have r2 : ∀ i, (Wf i).cell? ⟨g, of' + j' * 3 + 2, none⟩ = some (.bool false) := fun i => (HPC.out _ _ (hW i)).2.2
                  refine wp_region_holds hWs H8 (by kernel_rfl) (by kernel_rfl) ?_
                  (repeat (go_big_quiet_step ((go_at_call 48; exact quietH (CPp.out _ _ (hW _)) hWs)))); refine wpQuiet_nil ?_; intro _ hw'; obtain ⟨nq, hw''⟩ := hw'; subst hw''
                  have H9 := hW nq
                  generalize Wf nq = w9 at H9
                  clear r0 r1 r2 hW hWs H8 CPp HPC
                  go_wp2_with fail
                  refine (CW.out _ _ (p.o) (fz) (by omega) (by omega) (Holds.re 4 [0, 3, 1, 2] H9)).mono ?_
                  rintro en w10 ⟨rfl, H10⟩
                  have H11 : Holds e w10 (pts h (hpObj m base size) :: modH m (wrb M (base + (p.o)) (le 8 (fz))) :: R) := H10.re 4 [0, 1]
                  clear H10 CW HRD
                  go_wp2_with fail
                  go_ret
                  exact ⟨by rw [HFE.out]; rfl, by rw [HFM2.out]; exact H11⟩
                · rw [hpu] at p2
                  have hpf : prevFree l j = none := by unfold prevFree; rw [if_neg hj0, hjs, hpk]; dsimp only; rw [hpu]; rfl
                  have hfo2 : fo = b.o := by rw [← HFO.out.1]; unfold freeO; rw [hpf]
                  rw [hpf] at hz2
                  simp only [Nat.add_zero] at hz2
                  subst hfo2 hz2
                  clear hpf HFO hpk hpu hj' hjs
                  go_wp2_with fail
                  refine (CW.out _ _ (b.o) (fz) (by omega) (by omega) (Holds.re 4 [0, 3, 1, 2] H8)).mono ?_
                  rintro en w10 ⟨rfl, H10⟩
                  have H11 : Holds e w10 (pts h (hpObj m base size) :: modH m (wrb M (base + (b.o)) (le 8 (fz))) :: R) := H10.re 4 [0, 1]
                  clear H10 CW HRD
                  go_wp2_with fail
                  go_ret
                  exact ⟨by rw [HFE.out]; rfl, by rw [HFM2.out]; exact H11⟩
          · have hd1 : decide ((j : Int) + 1 < (len : Int)) = false := by simp; omega
            have hnf : nextFree l j = 0 := by unfold nextFree; rw [List.getElem?_eq_none (by rw [HLEN.out]; omega)]
            obtain ⟨s2, hs2⟩ : ∃ s2, b.size = s2 := ⟨_, rfl⟩
            rw [hnf, Nat.add_zero, hs2] at hz2
            rw [hs2]
            clear hnf
            by_cases hj0 : j = 0
            · have hpf : prevFree l j = none := by unfold prevFree; rw [if_pos hj0]
              have hfo2 : fo = b.o := by rw [← HFO.out.1]; unfold freeO; rw [hpf]
              rw [hpf] at hz2
              simp only [Nat.add_zero] at hz2
              subst hj0 hfo2 hz2
              clear hpf HFO
              go_wp2_with fail
              refine (CW.out _ _ (b.o) (fz) (by omega) (by omega) (Holds.re 4 [0, 3, 1, 2] H8)).mono ?_
              rintro en w10 ⟨rfl, H10⟩
              have H11 : Holds e w10 (pts h (hpObj m base size) :: modH m (wrb M (base + (b.o)) (le 8 (fz))) :: R) := H10.re 4 [0, 1]
              clear H10 CW HRD
              go_wp2_with fail
              go_ret
              exact ⟨by rw [HFE.out]; rfl, by rw [HFM2.out]; exact H11⟩
            · obtain ⟨j', hj'⟩ : ∃ j', j = j' + 1 := ⟨j - 1, by omega⟩
              have hjj : (j : Int) - 1 = (j' : Int) := by omega
              have hjl : (j' : Int) < (len : Int) := by omega
              have hjm : (0 : Int) ≤ (j' : Int) := by omega
              have hjs : j - 1 = j' := by omega
              have hj00 : decide ((0 : Int) < (j : Int)) = true := by simp; omega
              obtain ⟨p, hpk⟩ : ∃ p, l[j']? = some p := ⟨_, List.getElem?_eq_getElem (by rw [HLEN.out]; omega)⟩
              obtain ⟨hp1, hp2, hp3⟩ := HBS.out p (List.mem_of_getElem? hpk)
              obtain ⟨p0, p1, p2⟩ := HRD.out _ _ H8 _ _ hpk
              rcases hpu : p.used with _ | _
              · rw [hpu] at p2
                have hpf : prevFree l j = some p := by unfold prevFree; rw [if_neg hj0, hjs, hpk]; dsimp only; rw [hpu]; rfl
                have hfo2 : fo = p.o := by rw [← HFO.out.1]; unfold freeO; rw [hpf]
                rw [hpf] at hz2
                dsimp only at hz2
                have es2 : (s2 : Int) + (p.size : Int) = (fz : Int) := by omega
                have hz3 := hz2.symm
                clear hz2
                have CPp := Lib.hid (fun w' X h' => CP.out w' X p (List.mem_of_getElem? hpk) h')
                unfold BlkS.val at CPp
                have HPC : Hid (∀ w' X, Holds e w' (pts h (hpObj m base size) :: row (.slice (some ⟨g, of', none⟩) len cv) 53 3 len (l.flatMap (bcells base)) :: X) →
                      w'.cell? ⟨g, of' + j' * 3, none⟩ = some (.int .u64 ((base + p.o + 8 : Nat) : Int)) ∧ w'.cell? ⟨g, of' + j' * 3 + 1, none⟩ = some (.int .i64 p.size) ∧ w'.cell? ⟨g, of' + j' * 3 + 2, none⟩ = some (.bool false)) := Lib.hid fun w' X h' => by
                  have := HRD.out w' X h' j' p hpk
                  rw [hpu] at this
                  exact this
                obtain ⟨tp, htp⟩ : ∃ tp, base + p.o + 8 = tp := ⟨_, rfl⟩
                rw [htp] at p0 CPp HPC
                rw [hpu] at CPp
                subst hfo2
                clear hpf HFO hpk htp hpu hj' hjs
                go_wp2_with fail
                obtain ⟨I, Wf, hI, hW, hWs⟩ := worlds_of H8
                have r0 : ∀ i, (Wf i).cell? ⟨g, of' + j' * 3, none⟩ = some (.int .u64 tp) := fun i => (HPC.out _ _ (hW i)).1
                have r1 : ∀ i, (Wf i).cell? ⟨g, of' + j' * 3 + 1, none⟩ = some (.int .i64 p.size) := fun i => (HPC.out _ _ (hW i)).2.1
                have r2 : ∀ i, (Wf i).cell? ⟨g, of' + j' * 3 + 2, none⟩ = some (.bool false) := fun i => (HPC.out _ _ (hW i)).2.2
                refine wp_region_holds hWs H8 (by kernel_rfl) (by kernel_rfl) ?_
                (repeat (go_big_quiet_step ((go_at_call 48; exact quietH (CPp.out _ _ (hW _)) hWs)))); refine wpQuiet_nil ?_; intro _ hw'; obtain ⟨nq, hw''⟩ := hw'; subst hw''
                have H9 := hW nq
                generalize Wf nq = w9 at H9
                clear r0 r1 r2 hW hWs H8 CPp HPC
                go_wp2_with fail
                refine (CW.out _ _ (p.o) (fz) (by omega) (by omega) (Holds.re 4 [0, 3, 1, 2] H9)).mono ?_
                rintro en w10 ⟨rfl, H10⟩
                have H11 : Holds e w10 (pts h (hpObj m base size) :: modH m (wrb M (base + (p.o)) (le 8 (fz))) :: R) := H10.re 4 [0, 1]
                clear H10 CW HRD
                go_wp2_with fail
                go_ret
                exact ⟨by rw [HFE.out]; rfl, by rw [HFM2.out]; exact H11⟩
              · rw [hpu] at p2
                have hpf : prevFree l j = none := by unfold prevFree; rw [if_neg hj0, hjs, hpk]; dsimp only; rw [hpu]; rfl
                have hfo2 : fo = b.o := by rw [← HFO.out.1]; unfold freeO; rw [hpf]
                rw [hpf] at hz2
                simp only [Nat.add_zero] at hz2
                subst hfo2 hz2
                clear hpf HFO hpk hpu hj' hjs
                go_wp2_with fail
                refine (CW.out _ _ (b.o) (fz) (by omega) (by omega) (Holds.re 4 [0, 3, 1, 2] H8)).mono ?_
                rintro en w10 ⟨rfl, H10⟩
                have H11 : Holds e w10 (pts h (hpObj m base size) :: modH m (wrb M (base + (b.o)) (le 8 (fz))) :: R) := H10.re 4 [0, 1]
                clear H10 CW HRD
                go_wp2_with fail
                go_ret
                exact ⟨by rw [HFE.out]; rfl, by rw [HFM2.out]; exact H11⟩
      · have hf := HZ.out (by rw [HEQ.out]; simp [hat])
        have HF := Lib.hid hf
        have hne : ((t : Int) != (a : Int)) = true := by simp; omega
        clear hr hbk ht HX HN HZ HST hz hf hfo hfz CPb HEQ HFM HFO HFI
        subst hbx
        go_wp2_with fail
        go_roundw
        case rel => exact ⟨j + 1, by omega, by go_num, HF, HD.out⟩
        case measure => simp [Go.RowKit.intOf]; omega
    · obtain rfl : j = len := by omega
      have HA : Hid (idxOf (isAt base a) l = none) := Lib.hid (idx_none fun i y hy => hz.out i y (by have := (List.getElem?_eq_some_iff.1 hy).1; rw [HLEN.out] at this; omega) hy)
      have HD := Lib.hid HX.drop
      clear HX hz
      go_wp2_with fail
      go_ret
      exact ⟨by rw [HA.out]; rfl, by rw [HA.out]; exact HD.out⟩
end
end Go.Proofs.Ytjbphdjheklhbaa
