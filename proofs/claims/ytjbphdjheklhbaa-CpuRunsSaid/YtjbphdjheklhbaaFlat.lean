/-
  What the arguments of a law are: a plain reading of flat values and slices, taken off the form's own reading. And the frame of a law's row.
-/
import Derived.Test.YtjbphdjheklhbaaRow
import Derived.ProofKit
import Derived.OpenShut
import Derived.Deep.Fields
namespace Go.Proofs.Ytjbphdjheklhbaa
open Go.RowKit Go.ChangeShapes Go.WideShapes Go.ChangeAt

def Flat (P : Program) (W : World) : Nat → TypeId → List Value → Prop
  | 0, _, _ => True
  | d + 1, t, cs => match P.underlying t with
    | some (.int k) => ∃ n, cs = [.int k n] ∧ (Lit.int k n).wf = true
    | some .bool => ∃ b, cs = [.bool b]
    | some .string => ∃ s, cs = [.string s] ∧ s.size ≤ reachBytes
    | some (.struct fs) => cs.length = P.cellsOf t ∧ ∀ (i : Nat) (f : Field), fs[i]? = some f → Flat P W d f.type ((cs.drop f.offset).take (P.cellsOf f.type))
    | some (.array n e) => cs.length = P.cellsOf t ∧ ∀ i, i < n → Flat P W d e ((cs.drop (i * P.cellsOf e)).take (P.cellsOf e))
    | some (.slice e) => ∃ v n xs, cs = [v] ∧ Reads W v (P.cellsOf e) n xs ∧ n * P.bytesOf e ≤ reachBytes ∧ ∀ i, i < n → Flat P W d e ((xs.drop (i * P.cellsOf e)).take (P.cellsOf e))
    | _ => True

theorem weights_each {H : Type} {P : Program} : ∀ {ts : List TypeId} {ds : List (DataW H)} {j : Nat} {t : TypeId} {d : DataW H}, ts[j]? = some t → ds[j]? = some d → ∀ n ∈ d.weights P t, n ∈ DataW.weightsEach P ts ds :=
  fun ht hd n hn => DataW.weights_mem_each ht hd n hn

theorem weights_all {H : Type} {P : Program} {e : TypeId} : ∀ {ds : List (DataW H)} {d : DataW H}, d ∈ ds → ∀ n ∈ d.weights P e, n ∈ DataW.weightsAll P e ds
  | d' :: r, d, h, n, hn => by
    simp only [DataW.weightsAll, List.mem_append]
    rcases List.mem_cons.1 h with rfl | h
    · exact .inl hn
    · exact .inr (weights_all h n hn)

theorem cells?_list {w : World} {base : Nat} {a : Addr} {n : Nat} {cs : List Value} (h : w.cells? base a n = some cs) : cs.length = n ∧ ∀ j u, cs[j]? = some u → w.cell? (a.add j) = some u := by
  obtain ⟨_, hl, hc⟩ := World.cells?_some h
  refine ⟨hl, fun j u hj => ?_⟩
  have hlt : j < cs.length := (List.getElem?_eq_some_iff.1 hj).1
  rw [hc j (by omega), hj]

section
variable {H : Type} {enc : TypeId × Value → H} {P : Program} {W : World}

theorem add_add (a : Addr) (i j : Nat) (hs : a.spot = none) : (a.add i).add j = a.add (i + j) := by
  obtain ⟨b, o, s⟩ := a
  simp only at hs
  subst hs
  simp [Addr.add_at, Nat.add_assoc]

theorem mapM_opt {α β : Type} {f : α → Option β} : ∀ {l : List α} {xs : List β}, l.mapM f = some xs → xs.length = l.length ∧ ∀ (i : Nat) (a : α), l[i]? = some a → f a = xs[i]?
  | [], xs, h => by
    simp at h; subst h; simp
  | a :: l, xs, h => by
    simp only [List.mapM_cons, Option.bind_eq_bind, Option.bind_eq_some_iff, Option.pure_def, Option.some.injEq] at h
    obtain ⟨y, hy, ys, hys, rfl⟩ := h
    obtain ⟨h1, h2⟩ := mapM_opt hys
    refine ⟨by simp [h1], fun i b hb => ?_⟩
    cases i with
    | zero => simp at hb; subst hb; simpa using hy
    | succ i => simpa using h2 i b (by simpa using hb)

theorem trod_array {n : Nat} {e t : TypeId} {base fuel : Nat} {spare : Nat → Bool} {held : Bool} {cs : List Value} {x : DataW H × List MemPlace} (ht : P.underlying t = some (.array n e)) (h : DataW.trod enc P W base spare held fuel t cs = some x) :
    ∃ (xs : List (DataW H × List MemPlace)) (m : Nat), x = (.agg (xs.map (·.1)), xs.flatMap (·.2)) ∧ cs.length = P.cellsOf t ∧ xs.length = n ∧
      ∀ i, i < n → DataW.trod enc P W base spare held m e ((cs.drop (i * P.cellsOf e)).take (P.cellsOf e)) = xs[i]? := by
  cases fuel with
  | zero => simp [DataW.trod] at h
  | succ m =>
    unfold DataW.trod at h
    rw [ht] at h
    simp only at h
    split at h
    · rename_i hl
      cases hm : (List.range n).mapM (fun i => DataW.trod enc P W base spare held m e ((cs.drop (i * P.cellsOf e)).take (P.cellsOf e))) with
      | none => rw [hm] at h; cases h
      | some xs =>
        rw [hm] at h
        simp at h
        obtain ⟨h1, h2⟩ := mapM_opt hm
        refine ⟨xs, m, h.symm, hl, by simpa using h1, fun i hi => h2 i i (by simp [hi])⟩
    · cases h

theorem trod_flat : ∀ (d : Nat) (fuel : Nat) (t : TypeId) (cs : List Value) (x : DataW H × List MemPlace), DataW.trod enc P W 0 (fun _ => true) true fuel t cs = some x → (∀ n ∈ x.1.weights P t, n ≤ reachBytes) → Flat P W d t cs
  | 0, _, _, _, _, _, _ => trivial
  | d + 1, fuel, t, cs, x, h, hw => by
    unfold Flat
    split
    · rename_i k hk
      obtain ⟨n, h1, _, h2⟩ := DataW.trod_int hk h
      exact ⟨n, h1, h2⟩
    · rename_i hk
      obtain ⟨b, h1, _⟩ := DataW.trod_bool hk h
      exact ⟨b, h1⟩
    · rename_i hk
      obtain ⟨s, h1, h2, _⟩ := DataW.trod_string hk h
      refine ⟨s, h1, ?_⟩
      have := hw s.size (by rw [h2]; simp [DataW.weights])
      exact this
    · rename_i fs hk
      obtain ⟨xs, n, _, rfl, hl, hxl, hf⟩ := DataW.trod_struct hk h
      refine ⟨hl, fun i f hi => ?_⟩
      have hlt : i < fs.size := (Array.getElem?_eq_some_iff.1 hi).1
      have e := hf i f hi
      rw [List.getElem?_eq_getElem (by omega)] at e
      refine trod_flat d n _ _ _ e fun m hm => hw m ?_
      simp only [DataW.weights, hk]
      exact weights_each (j := i) (by simp [hi]) (by simp [List.getElem?_eq_getElem (show i < xs.length by omega)]) m hm
    · rename_i n e hk
      obtain ⟨xs, m, rfl, hl, hxl, hf⟩ := trod_array hk h
      refine ⟨hl, fun i hi => ?_⟩
      have e := hf i hi
      rw [List.getElem?_eq_getElem (by omega)] at e
      refine trod_flat d m _ _ _ e fun m hm => hw m ?_
      simp only [DataW.weights, hk]
      exact weights_all (List.mem_map.2 ⟨xs[i], List.getElem_mem _, rfl⟩) m hm
    · rename_i e hk
      rcases DataW.trod_slice hk h with ⟨rfl, rfl⟩ | ⟨a, len, cap, elems, rest, n, _, rfl, rfl, hb, hl, hm, hlen, hel, hsp, hns⟩
      · exact ⟨_, 0, [], rfl, ⟨by simp, .inl ⟨rfl, rfl⟩⟩, by simp, fun i hi => by omega⟩
      · obtain ⟨hrl, _⟩ := hsp rfl
        have hbytes : len * P.bytesOf e ≤ reachBytes := by
          have := hw ((elems.length + rest.length) * P.bytesOf e) (by simp [DataW.weights, hk])
          rw [hlen] at this
          exact Nat.le_trans (Nat.mul_le_mul_right _ (by omega)) this
        -- the cells of element i
        have each : ∀ i, i < len → ∃ ks y, W.cells? 0 (a.add (i * P.cellsOf e)) (P.cellsOf e) = some ks ∧ DataW.trod enc P W 0 (fun _ => true) true n e ks = some y ∧ elems[i]? = some y := by
          intro i hi
          have := hel i hi
          rw [List.getElem?_eq_getElem (by omega)] at this
          cases hc : W.cells? 0 (a.add (i * P.cellsOf e)) (P.cellsOf e) with
          | none => rw [hc] at this; cases this
          | some ks => rw [hc] at this; exact ⟨ks, _, rfl, this, List.getElem?_eq_getElem (by omega)⟩
        let xs : List Value := (List.range (len * P.cellsOf e)).map fun j => (W.cell? (a.add j)).getD undef
        have hspot : 0 < len * P.cellsOf e → a.spot = none := by
          intro h0
          have hl0 : 0 < len := Nat.pos_of_mul_pos_right h0
          have hc0 : 0 < P.cellsOf e := Nat.pos_of_mul_pos_left h0
          obtain ⟨ks, y, h1, _, _⟩ := each 0 hl0
          obtain ⟨hkl, hk⟩ := cells?_list h1
          have := hk 0 ks[0] (List.getElem?_eq_getElem (by omega))
          simpa [Addr.add] using World.cell?_spot this
        have hcell : ∀ i j, i < len → j < P.cellsOf e → ∃ u, W.cell? (a.add (i * P.cellsOf e + j)) = some u := by
          intro i j hi hj
          have hs := hspot (Nat.mul_pos (by omega) (by omega))
          obtain ⟨ks, y, h1, _, _⟩ := each i hi
          obtain ⟨hkl, hk⟩ := cells?_list h1
          have := hk j ks[j] (List.getElem?_eq_getElem (by omega))
          rw [add_add _ _ _ hs] at this
          exact ⟨_, this⟩
        refine ⟨_, len, xs, rfl, ⟨by simp [xs], .inr ⟨a, cap, rfl, hl, fun j u hj => ?_⟩⟩, hbytes, fun i hi => ?_⟩
        · have hlt : j < len * P.cellsOf e := by simpa [xs] using (List.getElem?_eq_some_iff.1 hj).1
          have hc0 : 0 < P.cellsOf e := Nat.pos_of_ne_zero (by rintro h; rw [h] at hlt; omega)
          obtain ⟨u', hu'⟩ := hcell (j / P.cellsOf e) (j % P.cellsOf e) (Nat.div_lt_of_lt_mul (by rw [Nat.mul_comm]; exact hlt)) (Nat.mod_lt _ hc0)
          rw [Nat.div_add_mod' j (P.cellsOf e)] at hu'
          simp only [xs, List.getElem?_map, List.getElem?_range hlt, Option.map_some, Option.some.injEq] at hj
          rw [hu'] at hj ⊢
          simpa using hj
        · obtain ⟨ks, y, h1, h2, h3⟩ := each i hi
          obtain ⟨hkl, hk'⟩ := cells?_list h1
          have hks : (xs.drop (i * P.cellsOf e)).take (P.cellsOf e) = ks := by
            apply List.ext_getElem?
            intro j
            by_cases hj : j < P.cellsOf e
            · have hs := hspot (Nat.mul_pos (by omega) (by omega))
              have hlt : i * P.cellsOf e + j < len * P.cellsOf e := by
                calc i * P.cellsOf e + j < i * P.cellsOf e + P.cellsOf e := by omega
                  _ = (i + 1) * P.cellsOf e := by rw [Nat.succ_mul]
                  _ ≤ len * P.cellsOf e := Nat.mul_le_mul_right _ hi
              have := hk' j ks[j] (List.getElem?_eq_getElem (by omega))
              rw [add_add _ _ _ hs] at this
              rw [List.getElem?_take, if_pos hj, List.getElem?_drop]
              simp only [xs, List.getElem?_map, List.getElem?_range hlt, Option.map_some]
              rw [this, List.getElem?_eq_getElem (by omega)]
              rfl
            · rw [List.getElem?_take, if_neg hj, List.getElem?_eq_none (by omega)]
          rw [hks]
          refine trod_flat d n _ _ _ h2 fun m hm => hw m ?_
          simp only [DataW.weights, hk, List.mem_cons, List.mem_append]
          exact .inr (.inl (weights_all (List.mem_map.2 ⟨y, List.mem_of_getElem? h3, rfl⟩) m hm))
    · trivial

end

/-- What a law is told of an argument. -/
def Arg (P : Program) (W : World) (t : TypeId) (v : Value) : Prop :=
  Flat P W 6 t v.cells.toList ∧ ∃ (r : Reach) (base : Nat), Value.okWide P W r base t v

theorem Arg.of {H : Type} {enc : TypeId × Value → H} {P : Program} {W : World} {r : Reach} {base : Nat} {t : TypeId} {v : Value} {d : DataW H} {ps : List MemPlace} (hval : Value.okWide P W r base t v)
    (h : DataW.Trod enc P W 0 (fun _ => true) true t v d ps) {ts : List TypeId} {ds : List (DataW H)} (hw : (DataW.weightsEach P ts ds).all (· ≤ reachBytes) = true) {j : Nat} (ht : ts[j]? = some t) (hd : ds[j]? = some d) : Arg P W t v := by
  obtain ⟨fuel, hf⟩ := h
  refine ⟨trod_flat 6 fuel t _ _ hf fun n hn => ?_, _, _, hval⟩
  have := List.all_eq_true.1 hw n (DataW.weights_mem_each ht hd n hn)
  simpa using this

section
variable {P : Program} {W : World} {t : TypeId} {v : Value}
theorem Arg.int {k : IntKind} (h : Arg P W t v) (ht : P.underlying t = some (.int k)) : ∃ n, v = .int k n ∧ (Lit.int k n).wf = true := by
  obtain ⟨h, r, base, hv⟩ := h
  obtain ⟨n, rfl⟩ := okWide_int ht hv
  unfold Flat at h
  rw [ht] at h
  obtain ⟨n', hn, hw⟩ := h
  simp [Value.cells] at hn
  subst hn
  exact ⟨n, rfl, hw⟩
theorem Arg.bool (h : Arg P W t v) (ht : P.underlying t = some .bool) : ∃ b, v = .bool b := by
  obtain ⟨_, r, base, hv⟩ := h
  exact okWide_bool ht hv
theorem Arg.string (h : Arg P W t v) (ht : P.underlying t = some .string) : ∃ s, v = .string s ∧ s.size ≤ reachBytes := by
  obtain ⟨h, r, base, hv⟩ := h
  obtain ⟨s, rfl⟩ := okWide_string ht hv
  unfold Flat at h
  rw [ht] at h
  obtain ⟨s', hn, hw⟩ := h
  simp [Value.cells] at hn
  subst hn
  exact ⟨s, rfl, hw⟩
theorem Arg.struct {fs : Array Field} (h : Arg P W t v) (ht : P.underlying t = some (.struct fs)) : ∃ cs, v = .agg cs ∧ cs.size = P.cellsOf t ∧ ∀ (i : Nat) (f : Field), fs[i]? = some f → Flat P W 5 f.type ((cs.toList.drop f.offset).take (P.cellsOf f.type)) := by
  obtain ⟨h, r, base, hv⟩ := h
  obtain ⟨cs, rfl, hs⟩ := okWide_struct ht hv
  unfold Flat at h
  rw [ht] at h
  exact ⟨cs, rfl, hs, h.2⟩
theorem Arg.slice {e : TypeId} (h : Arg P W t v) (ht : P.underlying t = some (.slice e)) : ∃ n xs, Reads W v (P.cellsOf e) n xs ∧ n * P.bytesOf e ≤ reachBytes ∧ ∀ i, i < n → Flat P W 5 e ((xs.drop (i * P.cellsOf e)).take (P.cellsOf e)) := by
  obtain ⟨h, r, base, hv⟩ := h
  obtain ⟨a, l, c, rfl⟩ := okWide_slice ht hv
  unfold Flat at h
  rw [ht] at h
  obtain ⟨v', n, xs, hv', h⟩ := h
  simp [Value.cells] at hv'
  subst hv'
  exact ⟨n, xs, h⟩

theorem Flat.int {d : Nat} {cs : List Value} {k : IntKind} (h : Flat P W (d + 1) t cs) (ht : P.underlying t = some (.int k)) : ∃ n, cs = [.int k n] ∧ (Lit.int k n).wf = true := by
  unfold Flat at h; rw [ht] at h; exact h
theorem Flat.bool {d : Nat} {cs : List Value} (h : Flat P W (d + 1) t cs) (ht : P.underlying t = some .bool) : ∃ b, cs = [.bool b] := by
  unfold Flat at h; rw [ht] at h; exact h
theorem Flat.string {d : Nat} {cs : List Value} (h : Flat P W (d + 1) t cs) (ht : P.underlying t = some .string) : ∃ s, cs = [.string s] ∧ s.size ≤ reachBytes := by
  unfold Flat at h; rw [ht] at h; exact h
theorem Flat.struct {d : Nat} {cs : List Value} {fs : Array Field} (h : Flat P W (d + 1) t cs) (ht : P.underlying t = some (.struct fs)) : cs.length = P.cellsOf t ∧ ∀ (i : Nat) (f : Field), fs[i]? = some f → Flat P W d f.type ((cs.drop f.offset).take (P.cellsOf f.type)) := by
  unfold Flat at h; rw [ht] at h; exact h
theorem Flat.array {d n : Nat} {e : TypeId} {cs : List Value} (h : Flat P W (d + 1) t cs) (ht : P.underlying t = some (.array n e)) : cs.length = P.cellsOf t ∧ ∀ i, i < n → Flat P W d e ((cs.drop (i * P.cellsOf e)).take (P.cellsOf e)) := by
  unfold Flat at h; rw [ht] at h; exact h
theorem Flat.slice {d : Nat} {e : TypeId} {cs : List Value} (h : Flat P W (d + 1) t cs) (ht : P.underlying t = some (.slice e)) : ∃ v n xs, cs = [v] ∧ Reads W v (P.cellsOf e) n xs ∧ n * P.bytesOf e ≤ reachBytes ∧ ∀ i, i < n → Flat P W d e ((xs.drop (i * P.cellsOf e)).take (P.cellsOf e)) := by
  unfold Flat at h; rw [ht] at h; exact h

/-- A slice of numbers of one kind. -/
theorem Arg.ints {e : TypeId} {k : IntKind} (h : Arg P W t v) (ht : P.underlying t = some (.slice e)) (he : P.underlying e = some (.int k)) (hc : P.cellsOf e = 1) :
    ∃ zs : List Int, Reads W v 1 zs.length (zs.map (Value.int k)) ∧ zs.length * P.bytesOf e ≤ reachBytes ∧ ∀ z ∈ zs, (Lit.int k z).wf = true := by
  obtain ⟨n, xs, hr, hb, hf⟩ := h.slice ht
  rw [hc] at hr
  have hl : xs.length = n := by have := hr.len; omega
  have each : ∀ i, i < n → ∃ z, xs[i]? = some (.int k z) ∧ (Lit.int k z).wf = true := by
    intro i hi
    obtain ⟨z, h1, h2⟩ := (hf i hi).int he
    refine ⟨z, ?_, h2⟩
    rw [hc, Nat.mul_one] at h1
    have := congrArg (·[0]?) h1
    simpa [List.getElem?_take, List.getElem?_drop] using this
  have : ∃ zs : List Int, zs.map (Value.int k) = xs ∧ ∀ z ∈ zs, (Lit.int k z).wf = true := by
    clear hr hf hb
    induction xs generalizing n with
    | nil => exact ⟨[], rfl, by simp⟩
    | cons x xs ih =>
      obtain ⟨z, h1, h2⟩ := each 0 (by simp at hl; omega)
      obtain ⟨zs, h3, h4⟩ := ih (n - 1) (by simp at hl; omega) (fun i hi => by simpa using each (i + 1) (by omega))
      simp at h1
      subst h1
      refine ⟨z :: zs, by simp [h3], ?_⟩
      intro z' hz'
      rcases List.mem_cons.1 hz' with rfl | hz'
      · exact h2
      · exact h4 _ hz'
  obtain ⟨zs, rfl, hz⟩ := this
  have hn : n = zs.length := by simpa using hl.symm
  subst hn
  exact ⟨zs, hr, hb, hz⟩
end

/-- The type of cell j of a value of type t. -/
def cellType (P : Program) : Nat → TypeId → Nat → Option TypeId
  | 0, _, _ => none
  | d + 1, t, j => match P.underlying t with
    | some (.struct fs) => (fs.toList.find? fun f => f.offset ≤ j && j < f.offset + P.cellsOf f.type).bind fun f => cellType P d f.type (j - f.offset)
    | some (.array n e) => if 0 < P.cellsOf e ∧ j / P.cellsOf e < n then cellType P d e (j % P.cellsOf e) else none
    | some (.int _) => if j = 0 then some t else none
    | some .bool => if j = 0 then some t else none
    | some .string => if j = 0 then some t else none
    | some (.slice _) => if j = 0 then some t else none
    | _ => none

theorem flat_cell {P : Program} {W : World} : ∀ (d k : Nat) {t : TypeId} {cs : List Value} {j : Nat} {u : TypeId}, Flat P W (d + k) t cs → cellType P d t j = some u → ∃ v k', cs[j]? = some v ∧ k ≤ k' ∧ Flat P W (k' + 1) u [v]
  | 0, _, _, _, _, _, _, h => by cases h
  | d + 1, k, t, cs, j, u, h, hc => by
    have hd : d + 1 + k = (d + k) + 1 := by omega
    rw [hd] at h
    unfold cellType at hc
    have leaf : ∀ v : Value, cs = [v] → (if j = 0 then some t else none) = some u → ∃ v k', cs[j]? = some v ∧ k ≤ k' ∧ Flat P W (k' + 1) u [v] := by
      intro v hv hj
      split at hj
      · rename_i h0
        cases hj
        subst hv h0
        exact ⟨v, d + k, rfl, by omega, h⟩
      · cases hj
    split at hc
    · rename_i fs hk
      obtain ⟨hl, hf⟩ := h.struct hk
      cases hfi : fs.toList.find? (fun f => decide (f.offset ≤ j) && decide (j < f.offset + P.cellsOf f.type)) with
      | none => rw [hfi] at hc; cases hc
      | some f =>
        rw [hfi] at hc
        simp only [Option.bind_some] at hc
        have hp := List.find?_some hfi
        simp only [Bool.and_eq_true, decide_eq_true_eq] at hp
        obtain ⟨i, hi, hif⟩ := List.getElem_of_mem (List.mem_of_find?_eq_some hfi)
        have := hf i f (by rw [← hif, ← Array.getElem?_toList, List.getElem?_eq_getElem hi])
        obtain ⟨v, k', hv, hk', hF⟩ := flat_cell d k this hc
        refine ⟨v, k', ?_, hk', hF⟩
        have := (take_get hv).1
        rw [List.getElem?_drop] at this
        rwa [show f.offset + (j - f.offset) = j by omega] at this
    · rename_i n e hk
      obtain ⟨hl, hf⟩ := h.array hk
      split at hc
      · rename_i hj
        obtain ⟨v, k', hv, hk', hF⟩ := flat_cell d k (hf _ hj.2) hc
        refine ⟨v, k', ?_, hk', hF⟩
        have := (take_get hv).1
        rw [List.getElem?_drop, Nat.div_add_mod'] at this
        exact this
      · cases hc
    · rename_i kk hk
      obtain ⟨n, hn, _⟩ := h.int hk
      exact leaf _ hn hc
    · rename_i hk
      obtain ⟨n, hn⟩ := h.bool hk
      exact leaf _ hn hc
    · rename_i hk
      obtain ⟨n, hn, _⟩ := h.string hk
      exact leaf _ hn hc
    · rename_i e hk
      obtain ⟨v, _, _, hn, _⟩ := h.slice hk
      exact leaf _ hn hc
    · cases hc

/-- A slice argument, cell by cell. -/
theorem arg_cell {P : Program} {W : World} {e : TypeId} {size n i j : Nat} {u : TypeId} {xs : List Value} (hf : ∀ i, i < n → Flat P W 5 e ((xs.drop (i * size)).take size)) (hi : i < n) (hc : cellType P 3 e j = some u) :
    ∃ v k', xs[i * size + j]? = some v ∧ 2 ≤ k' ∧ Flat P W (k' + 1) u [v] := by
  obtain ⟨v, k', hv, h⟩ := flat_cell 3 2 (hf i hi) hc
  have := (take_get hv).1
  rw [List.getElem?_drop] at this
  exact ⟨v, k', this, h⟩

/-- A slice argument all of whose cells are numbers of kind int. -/
theorem arg_flatInts {P : Program} {W : World} {e : TypeId} {size n : Nat} {v : Value} {xs : List Value} (hr : Reads W v size n xs) (hf : ∀ i, i < n → Flat P W 5 e ((xs.drop (i * size)).take size))
    (hs : ∀ j, j < size → ∃ u, cellType P 3 e j = some u ∧ P.underlying u = some (.int .i64)) :
    ∃ zs : List Int, xs = ints zs ∧ zs.length = n * size ∧ ∀ z ∈ zs, (Lit.int .i64 z).wf = true := by
  have each : ∀ k, k < xs.length → ∃ z, xs[k]? = some (.int .i64 z) ∧ (Lit.int .i64 z).wf = true := by
    intro k hk
    rw [hr.len] at hk
    have h0 : 0 < size := Nat.pos_of_ne_zero (by rintro rfl; omega)
    obtain ⟨u, hu, hi⟩ := hs (k % size) (Nat.mod_lt _ h0)
    obtain ⟨v, k', h1, _, h2⟩ := arg_cell hf (i := k / size) (Nat.div_lt_of_lt_mul (by rw [Nat.mul_comm]; exact hk)) hu
    rw [Nat.div_add_mod'] at h1
    obtain ⟨z, h3, h4⟩ := h2.int hi
    simp at h3
    subst h3
    exact ⟨z, h1, h4⟩
  have key : ∀ (l : List Value), (∀ k, k < l.length → ∃ z, l[k]? = some (.int .i64 z) ∧ (Lit.int .i64 z).wf = true) → ∃ zs : List Int, l = ints zs ∧ ∀ z ∈ zs, (Lit.int .i64 z).wf = true := by
    intro l
    induction l with
    | nil => intro _; exact ⟨[], rfl, by simp⟩
    | cons x l ih =>
      intro h
      obtain ⟨z, h1, h2⟩ := h 0 (by simp)
      obtain ⟨zs, h3, h4⟩ := ih (fun k hk => by simpa using h (k + 1) (by simpa using hk))
      simp at h1
      subst h1 h3
      refine ⟨z :: zs, rfl, ?_⟩
      intro z' hz'
      rcases List.mem_cons.1 hz' with rfl | hz'
      · exact h2
      · exact h4 _ hz'
  obtain ⟨zs, rfl, hz⟩ := key xs each
  exact ⟨zs, rfl, by have := hr.len; simpa using this, hz⟩

theorem cells_ints : ∀ (l : List Value), (∀ k, k < l.length → ∃ z, l[k]? = some (.int .i64 z) ∧ (Lit.int .i64 z).wf = true) → ∃ zs : List Int, l = ints zs ∧ ∀ z ∈ zs, (Lit.int .i64 z).wf = true := by
  intro l
  induction l with
  | nil => intro _; exact ⟨[], rfl, by simp⟩
  | cons x l ih =>
    intro h
    obtain ⟨z, h1, h2⟩ := h 0 (by simp)
    obtain ⟨zs, h3, h4⟩ := ih (fun k hk => by simpa using h (k + 1) (by simpa using hk))
    simp at h1
    subst h1 h3
    refine ⟨z :: zs, rfl, ?_⟩
    intro z' hz'
    rcases List.mem_cons.1 hz' with rfl | hz'
    · exact h2
    · exact h4 _ hz'

/-- A struct argument all of whose cells are numbers of kind int. -/
theorem struct_ints {P : Program} {W : World} {t : TypeId} {v : Value} {fs : Array Field} {n : Nat} (h : Arg P W t v) (ht : P.underlying t = some (.struct fs)) (hn : P.cellsOf t = n)
    (hs : ∀ j, j < n → ∃ u, cellType P 3 t j = some u ∧ P.underlying u = some (.int .i64)) :
    ∃ zs : List Int, v = .agg (ints zs).toArray ∧ zs.length = n ∧ ∀ z ∈ zs, (Lit.int .i64 z).wf = true := by
  obtain ⟨hf, r, base, hv⟩ := h
  obtain ⟨cs, rfl, hsz⟩ := okWide_struct ht hv
  have hfl : Flat P W (3 + 3) t cs.toList := hf
  obtain ⟨zs, hz, hw⟩ := cells_ints cs.toList (fun k hk => by
    obtain ⟨u, hu, hi⟩ := hs k (by rw [← hn, ← hsz]; simpa using hk)
    obtain ⟨v, k', h1, _, h2⟩ := flat_cell 3 3 hfl hu
    obtain ⟨z, h3, h4⟩ := h2.int hi
    simp at h3
    subst h3
    exact ⟨z, h1, h4⟩)
  refine ⟨zs, ?_, ?_, hw⟩
  · rw [← hz]
  · have := congrArg List.length hz
    simp at this
    omega

theorem wf_i64 {z : Int} (h : (Lit.int .i64 z).wf = true) : -9223372036854775808 ≤ z ∧ z ≤ 9223372036854775807 := by
  simp [Lit.wf, IntKind.min, IntKind.max, IntKind.signed, IntKind.bits] at h; omega
theorem wf_u8 {z : Int} (h : (Lit.int .u8 z).wf = true) : 0 ≤ z ∧ z ≤ 255 := by
  simp [Lit.wf, IntKind.min, IntKind.max, IntKind.signed, IntKind.bits] at h; omega
theorem wf_u16 {z : Int} (h : (Lit.int .u16 z).wf = true) : 0 ≤ z ∧ z ≤ 65535 := by
  simp [Lit.wf, IntKind.min, IntKind.max, IntKind.signed, IntKind.bits] at h; omega

theorem law_own : ownKnob Try.prog.godebug = none := by kernel_rfl
theorem law_laidOut : laidOutB Try.prog = true := by kernel_rfl

theorem args_below {H : Type} {enc : TypeId × Value → H} {W W' : World} (hb : Below W.heap.size W W') :
    ∀ {ts : List TypeId} {vs : List Value} {ds : List (DataW H)} {ps : List MemPlace}, (∀ t ∈ ts, Try.prog.readableRec t = true ∧ t < Try.prog.types.size) → (∀ x ∈ ps, x.block < W.heap.size) →
      DataW.TrodAll enc Try.prog W 0 (fun _ => true) true ts vs ds ps → DataW.TrodAll enc Try.prog W' 0 (fun b => decide (b < W.heap.size)) true ts vs ds ps
  | [], [], [], _, _, _, h => h
  | [], [], _ :: _, _, _, _, h => h.elim
  | [], _ :: _, _, _, _, _, h => h.elim
  | _ :: _, [], _, _, _, _, h => h.elim
  | _ :: _, _ :: _, [], _, _, _, h => h.elim
  | t :: ts, v :: vs, d :: ds, ps, ht, hlt, h => by
    obtain ⟨p, q, h1, h2, rfl⟩ := h
    refine ⟨p, q, ?_, args_below hb (fun t ht' => ht t (List.mem_cons_of_mem _ ht')) (fun x hx => hlt x (List.mem_append.2 (.inr hx))) h2, rfl⟩
    obtain ⟨r1, r2⟩ := ht t (List.mem_cons_self ..)
    exact Below.trod law_laidOut r1 r2 h1 hb fun x hx => hlt x (List.mem_append.2 (.inl hx))

end Go.Proofs.Ytjbphdjheklhbaa
