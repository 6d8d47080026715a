/-
  '==' on arrays of numbers. No program in sight.
-/
import Derived.Test.YtjbphdjheklhbaaNum
import Derived.Laws.StructEq
namespace Go.Proofs.Ytjbphdjheklhbaa
open Go.RowKit

theorem all_getD_eq : ∀ (xs ys : List Int) (n : Nat), xs.length = n → ys.length = n → ((List.range' 0 n 1).all fun i => xs.getD i 0 == ys.getD i 0) = decide (xs = ys) := by
  intro xs ys n hx hy
  rw [Bool.eq_iff_iff, List.all_eq_true, decide_eq_true_eq]
  constructor
  · intro h
    apply List.ext_getElem (hx.trans hy.symm)
    intro i h1 h2
    have := h i (by rw [List.mem_range'_1]; omega)
    simpa [List.getD, List.getElem?_eq_getElem h1, List.getElem?_eq_getElem h2] using this
  · rintro rfl i _
    simp
section
variable {P : Program} (w : World)
theorem run_equalIn_nums (d : Nat) (t e : TypeId) (k : IntKind) (n : Nat) (ht : P.underlying t = some (.array n e)) (he : P.underlying e = some (.int k)) (hsz : ∀ w, (sizeOf e).run P w = .ok 1 w)
    (xs ys : List Int) (hx : xs.length = n) (hy : ys.length = n) :
    (Op.equalIn (d + 2) t (.agg (xs.map (Value.int k)).toArray) (.agg (ys.map (Value.int k)).toArray)).run P w = .ok (decide (xs = ys)) w := by
  rw [← all_getD_eq xs ys n hx hy, Op.equalIn]
  simp only [Sem.run_bind, run_underlying ht, Result.andThen_ok, hsz, Std.Legacy.Range.forIn_eq_forIn_range', Std.Legacy.Range.size, Nat.sub_zero, Nat.add_sub_cancel, Nat.div_one]
  have hl : ∀ i ∈ List.range' 0 n 1, i < n := fun i hi => by simpa using (List.mem_range'_1.1 hi).2
  generalize List.range' 0 n 1 = l at hl ⊢
  induction l with
  | nil => simp
  | cons i l ih =>
    have hi : i < n := hl i (by simp)
    have px : (part e (xs.map (Value.int k)).toArray (i * 1)).run P w = .ok (.int k (xs.getD i 0)) w := by
      simp [part, isAgg, run_underlying he, List.getD, List.getElem?_eq_getElem (show i < xs.length by omega)]
    have py : (part e (ys.map (Value.int k)).toArray (i * 1)).run P w = .ok (.int k (ys.getD i 0)) w := by
      simp [part, isAgg, run_underlying he, List.getD, List.getElem?_eq_getElem (show i < ys.length by omega)]
    have pe : (Op.equalIn (d + 1) e (.int k (xs.getD i 0)) (.int k (ys.getD i 0))).run P w = .ok (xs.getD i 0 == ys.getD i 0) w := run_equalIn_int w d e k k _ _ he
    simp only [List.forIn_cons, Sem.run_bind, px, py, pe, Result.andThen_ok, List.all_cons]
    cases hb : (xs.getD i 0 == ys.getD i 0)
    · simp
    · simp only [Bool.not_true, Bool.false_eq_true, if_false, Sem.run_pure, Result.andThen_ok, Bool.true_and]
      exact ih fun j hj => hl j (by simp [hj])
set_option maxRecDepth 20000 in
theorem run_eql_nums (t e : TypeId) (k : IntKind) (n : Nat) (ht : P.underlying t = some (.array n e)) (he : P.underlying e = some (.int k)) (hsz : ∀ w, (sizeOf e).run P w = .ok 1 w)
    (xs ys : List Int) (hx : xs.length = n) (hy : ys.length = n) :
    (binOp .eql t (.agg (xs.map (Value.int k)).toArray) (.agg (ys.map (Value.int k)).toArray)).run P w = .ok (.bool (decide (xs = ys))) w := by
  rw [run_eql_struct]
  have h := run_equalIn_nums w 9998 t e k n ht he hsz xs ys hx hy
  simp only [Nat.reduceAdd] at h
  rw [h]
  simp only [Result.andThen_ok]
end
theorem u64v_ints (l : List Nat) : u64v l = (l.map fun x : Nat => (x : Int)).map (Value.int .u64) := by unfold u64v; rw [List.map_map]; rfl
set_option maxRecDepth 100000 in
theorem eqRegs (r r' : List Nat) (h : r.length = 4) (h' : r'.length = 4) (w : World) : (binOp .eql 95 (.agg (u64v r).toArray) (.agg (u64v r').toArray)).run Try.prog w = .ok (.bool (decide (r = r'))) w := by
  have := run_eql_nums (P := Try.prog) w 95 28 .u64 4 (by kernel_rfl) (by kernel_rfl) (fun w => by kernel_rfl) (r.map fun x : Nat => (x : Int)) (r'.map fun x : Nat => (x : Int)) (by simpa using h) (by simpa using h')
  rw [u64v_ints, u64v_ints, this]
  congr 2
  rw [Bool.eq_iff_iff, decide_eq_true_eq, decide_eq_true_eq]
  constructor
  · intro hh
    apply List.ext_getElem (h.trans h'.symm)
    intro i h1 h2
    have := congrArg (fun l => l[i]?) hh
    simp [List.getElem?_eq_getElem h1, List.getElem?_eq_getElem h2] at this
    omega
  · rintro rfl; rfl
end Go.Proofs.Ytjbphdjheklhbaa
