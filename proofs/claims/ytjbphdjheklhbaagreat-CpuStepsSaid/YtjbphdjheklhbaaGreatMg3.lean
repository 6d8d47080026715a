import Derived.Test.YtjbphdjheklhbaaGreatMg0
import Derived.Laws.StructEq
import Derived.Test.YtjbphdjheklhbaaGreatMg2
import Derived.Test.YtjbphdjheklhbaaGreatMg1
import Derived.Deep.RegionHeld3
/-
  '==' on arrays of numbers. No program in sight.
-/
namespace Go.Proofs.YtjbphdjheklhbaaGreat
open Go.RowKit

theorem all_getD_eq : ∀ (xs ys : List Int) (n : Nat), xs.length = n → ys.length = n → ((List.range' 0 n 1).all fun i => xs.getD i 0 == ys.getD i 0) = decide (xs = ys) := by
  intro xs ys n hx hy
  rw [Bool.eq_iff_iff, List.all_eq_true, decide_eq_true_eq]
  constructor
  · intro h
    apply List.ext_getElem (hx.trans hy.symm)
    intro i h1 h2
    have := h i (by rw [List.mem_range'_1]; omega)
    simpa [List.getD, List.getElem?_eq_getElem h1, List.getElem?_eq_getElem h2] using this
  · rintro rfl i _
    simp
section
variable {P : Program} (w : World)
theorem run_equalIn_nums (d : Nat) (t e : TypeId) (k : IntKind) (n : Nat) (ht : P.underlying t = some (.array n e)) (he : P.underlying e = some (.int k)) (hsz : ∀ w, (sizeOf e).run P w = .ok 1 w)
    (xs ys : List Int) (hx : xs.length = n) (hy : ys.length = n) :
    (Op.equalIn (d + 2) t (.agg (xs.map (Value.int k)).toArray) (.agg (ys.map (Value.int k)).toArray)).run P w = .ok (decide (xs = ys)) w := by
  rw [← all_getD_eq xs ys n hx hy, Op.equalIn]
  simp only [Sem.run_bind, run_underlying ht, Result.andThen_ok, hsz, Std.Legacy.Range.forIn_eq_forIn_range', Std.Legacy.Range.size, Nat.sub_zero, Nat.add_sub_cancel, Nat.div_one]
  have hl : ∀ i ∈ List.range' 0 n 1, i < n := fun i hi => by simpa using (List.mem_range'_1.1 hi).2
  generalize List.range' 0 n 1 = l at hl ⊢
  induction l with
  | nil => simp
  | cons i l ih =>
    have hi : i < n := hl i (by simp)
    have px : (part e (xs.map (Value.int k)).toArray (i * 1)).run P w = .ok (.int k (xs.getD i 0)) w := by
      simp [part, isAgg, run_underlying he, List.getD, List.getElem?_eq_getElem (show i < xs.length by omega)]
    have py : (part e (ys.map (Value.int k)).toArray (i * 1)).run P w = .ok (.int k (ys.getD i 0)) w := by
      simp [part, isAgg, run_underlying he, List.getD, List.getElem?_eq_getElem (show i < ys.length by omega)]
    have pe : (Op.equalIn (d + 1) e (.int k (xs.getD i 0)) (.int k (ys.getD i 0))).run P w = .ok (xs.getD i 0 == ys.getD i 0) w := run_equalIn_int w d e k k _ _ he
    simp only [List.forIn_cons, Sem.run_bind, px, py, pe, Result.andThen_ok, List.all_cons]
    cases hb : (xs.getD i 0 == ys.getD i 0)
    · simp
    · simp only [Bool.not_true, Bool.false_eq_true, if_false, Sem.run_pure, Result.andThen_ok, Bool.true_and]
      exact ih fun j hj => hl j (by simp [hj])
set_option maxRecDepth 20000 in
theorem run_eql_nums (t e : TypeId) (k : IntKind) (n : Nat) (ht : P.underlying t = some (.array n e)) (he : P.underlying e = some (.int k)) (hsz : ∀ w, (sizeOf e).run P w = .ok 1 w)
    (xs ys : List Int) (hx : xs.length = n) (hy : ys.length = n) :
    (binOp .eql t (.agg (xs.map (Value.int k)).toArray) (.agg (ys.map (Value.int k)).toArray)).run P w = .ok (.bool (decide (xs = ys))) w := by
  rw [run_eql_struct]
  have h := run_equalIn_nums w 9998 t e k n ht he hsz xs ys hx hy
  simp only [Nat.reduceAdd] at h
  rw [h]
  simp only [Result.andThen_ok]
end
theorem u64v_ints (l : List Nat) : u64v l = (l.map fun x : Nat => (x : Int)).map (Value.int .u64) := by unfold u64v; rw [List.map_map]; rfl
set_option maxRecDepth 100000 in
theorem eqRegs (r r' : List Nat) (h : r.length = 4) (h' : r'.length = 4) (w : World) : (binOp .eql 37 (.agg (u64v r).toArray) (.agg (u64v r').toArray)).run Tryz.prog w = .ok (.bool (decide (r = r'))) w := by
  have := run_eql_nums (P := Tryz.prog) w 37 22 .u64 4 (by kernel_rfl) (by kernel_rfl) (fun w => by kernel_rfl) (r.map fun x : Nat => (x : Int)) (r'.map fun x : Nat => (x : Int)) (by simpa using h) (by simpa using h')
  rw [u64v_ints, u64v_ints, this]
  congr 2
  rw [Bool.eq_iff_iff, decide_eq_true_eq, decide_eq_true_eq]
  constructor
  · intro hh
    apply List.ext_getElem (h.trans h'.symm)
    intro i h1 h2
    have := congrArg (fun l => l[i]?) hh
    simp [List.getElem?_eq_getElem h1, List.getElem?_eq_getElem h2] at this
    omega
  · rintro rfl; rfl
end Go.Proofs.YtjbphdjheklhbaaGreat

/-
  Layer 48: the reference's cpu.
-/
namespace Go.Proofs.YtjbphdjheklhbaaGreat
open Go.RowKit

def refC (b : Nat) (C : CpS) : HP := pts b (.cells C.cells.toArray 55 (0, 0))
def refCV (C : CpS) : Value := .agg C.cells.toArray
theorem cpS_cells {C : CpS} {r0 r1 r2 r3 : Nat} (h : C.r = [r0, r1, r2, r3]) : C.cells.toArray = #[.int .u64 r0, .int .u64 r1, .int .u64 r2, .int .u64 r3, .int .u64 C.pc, .int .i64 C.done, .bool C.halted] := by
  unfold CpS.cells
  rw [h]
  rfl
section
variable {e : Env} {w : World} {R : List HP} {b : Nat} {M : List Pg} {C : CpS}
theorem refC.set {k : Nat} {v : Value} {C' : CpS} (H : Holds e w (refC b C :: R)) (h : C.cells.set k v = C'.cells) : Holds e (w.setCell ⟨b, k, none⟩ v) (refC b C' :: R) := by
  have h1 := Holds.set (c := C.cells.toArray) H k v
  unfold refC
  rw [← h]
  simpa using h1
theorem refC.cell {k : Nat} {v : Value} (H : Holds e w (refC b C :: R)) (h : C.cells[k]? = some v) : w.cell? ⟨b, k, none⟩ = some v := by
  have h1 := Holds.cells (c := C.cells.toArray) H k
  rw [h1]
  simpa using h
theorem refC.frozen {k : Nat} (H : Holds e w (refC b C :: R)) : w.frozen? ⟨b, k, none⟩ = false := Holds.frozen (c := C.cells.toArray) H k
def zeroC : CpS := ⟨[0, 0, 0, 0], 0, 0, false⟩
/-- A whole cpu stored over another one. -/
theorem refC.all {C' : CpS} {r0 r1 r2 r3 : Nat} (h : C'.r = [r0, r1, r2, r3]) (hC : C.r.length = 4) (H : Holds e w (refC b C :: R)) :
    Holds e (((((((w.setCell ⟨b, 0, none⟩ (.int .u64 r0)).setCell ⟨b, 1, none⟩ (.int .u64 r1)).setCell ⟨b, 2, none⟩ (.int .u64 r2)).setCell ⟨b, 3, none⟩ (.int .u64 r3)).setCell ⟨b, 4, none⟩ (.int .u64 C'.pc)).setCell ⟨b, 5, none⟩ (.int .i64 C'.done)).setCell ⟨b, 6, none⟩ (.bool C'.halted)) (refC b C' :: R) := by
  obtain ⟨s0, s1, s2, s3, hs⟩ := list4 hC
  unfold refC at H ⊢
  rw [cpS_cells hs] at H
  rw [cpS_cells h]
  have h := ((((((H.set 0 (.int .u64 r0)).set 1 (.int .u64 r1)).set 2 (.int .u64 r2)).set 3 (.int .u64 r3)).set 4 (.int .u64 C'.pc)).set 5 (.int .i64 C'.done)).set 6 (.bool C'.halted)
  simp only [List.setIfInBounds_toArray, List.set_cons_zero, List.set_cons_succ] at h
  exact h
end
end Go.Proofs.YtjbphdjheklhbaaGreat

/-
  Layer 48: a step of the reference's cpu.
-/
namespace Go.Proofs.YtjbphdjheklhbaaGreat
open Go.RowKit

section
variable {e : Env} {w : World} {R : List HP} {M : List Pg} {C : CpS}
set_option maxRecDepth 100000 in
set_option maxHeartbeats 4000000 in
theorem ref48Step (hC : CpOk C) (hO : ModOk M) (hl : M.length ≤ 100000) (hdn : C.done ≤ 1000000000) {v : Value} (H : Holds e w (refH v M :: R)) :
    Calls Tryz.prog 20 #[refCV C, v] w (RetEx e (fun v' : Value => .tuple #[refCV (stepS M C).2.1, v', .int .i64 (stepS M C).1]) (fun v' => refH v' (stepS M C).2.2 :: R)) := by
  obtain ⟨r, pc, dn, hd⟩ := C
  obtain ⟨r0, r1, r2, r3, hr⟩ := list4 hC.len
  dsimp only at hr hdn
  subst hr
  obtain ⟨cb, hcb⟩ : ∃ cb, w.heap.size = cb := ⟨_, rfl⟩
  obtain ⟨rb, hrb⟩ : ∃ rb, cb + 1 = rb := ⟨_, rfl⟩
  have H1 := (H.alloc (.cells (CpS.cells ⟨[r0, r1, r2, r3], pc, dn, hd⟩).toArray 55)).alloc (.cells zeroC.cells.toArray 55)
  rw [World.size_alloc, hcb, hrb] at H1
  have H1 : Holds e ((w.alloc (.cells #[.int .u64 r0, .int .u64 r1, .int .u64 r2, .int .u64 r3, .int .u64 pc, .int .i64 dn, .bool hd] 55)).alloc (.cells #[.int .u64 0, .int .u64 0, .int .u64 0, .int .u64 0, .int .u64 0, .int .i64 0, .bool false] 55)) (refC rb zeroC :: refC cb ⟨[r0, r1, r2, r3], pc, dn, hd⟩ :: refH v M :: R) := H1
  have HK : Hid (∀ w', Holds e w' (refC rb zeroC :: refC cb ⟨[r0, r1, r2, r3], pc, dn, hd⟩ :: refH v M :: R) → (∀ j, w'.cell? ⟨cb, j, none⟩ = (#[.int .u64 r0, .int .u64 r1, .int .u64 r2, .int .u64 r3, .int .u64 pc, .int .i64 dn, .bool hd] : Array Value)[j]?) ∧ (∀ j, w'.cell? ⟨rb, j, none⟩ = (#[.int .u64 0, .int .u64 0, .int .u64 0, .int .u64 0, .int .u64 0, .int .i64 0, .bool false] : Array Value)[j]?) ∧ ∀ j, w'.frozen? ⟨rb, j, none⟩ = false) := Lib.hid fun w' h =>
    ⟨Holds.cells h.swap, Holds.cells h, Holds.frozen h⟩
  unfold refCV
  have HCT := Lib.hid hC
  have HOT := Lib.hid hO
  cases hd
  · have hpc64 := hC.pc
    dsimp only at hpc64
    have CR := Lib.hid fun w' X (h : Holds e w' (refH v M :: X)) => ref37Read hO hl pc hpc64 8 (by omega) (by omega) 4 (by omega) h
    have hs0 : stepS M ⟨[r0, r1, r2, r3], pc, dn, false⟩ = if chk M pc 8 4 ≠ 0 then (chk M pc 8 4, ⟨[r0, r1, r2, r3], pc, dn, false⟩, M) else if insOk (rdb M pc 8) = false then (3, ⟨[r0, r1, r2, r3], pc, dn, false⟩, M) else
        if (execC (insOf (rdb M pc 8)) M ⟨[r0, r1, r2, r3], add64 pc 8, dn, false⟩).1 ≠ 0 then ((execC (insOf (rdb M pc 8)) M ⟨[r0, r1, r2, r3], add64 pc 8, dn, false⟩).1, ⟨[r0, r1, r2, r3], pc, dn, false⟩, M) else
        (0, ⟨(execC (insOf (rdb M pc 8)) M ⟨[r0, r1, r2, r3], add64 pc 8, dn, false⟩).2.1.r, (execC (insOf (rdb M pc 8)) M ⟨[r0, r1, r2, r3], add64 pc 8, dn, false⟩).2.1.pc, dn + 1, (execC (insOf (rdb M pc 8)) M ⟨[r0, r1, r2, r3], add64 pc 8, dn, false⟩).2.1.halted⟩, (execC (insOf (rdb M pc 8)) M ⟨[r0, r1, r2, r3], add64 pc 8, dn, false⟩).2.2) := by
      conv => lhs; unfold stepS
      rw [if_neg (show ¬ (false = true) by decide)]
    have HRE : Hid (chk M pc 8 4 = 0 → rdE M pc 8 4 = rdb M pc 8) := Lib.hid fun h => by unfold rdE; rw [if_pos h]; rfl
    obtain ⟨k1, k2, k3⟩ := HK.out _ H1
    rw [cpS_cells rfl]
    obtain ⟨E, hE⟩ : ∃ E, chk M pc 8 4 = E := ⟨_, rfl⟩
    rw [hE] at hs0 CR HRE
    have CRx := Lib.hid (CR.out _ _ (H1.re 3 [2, 0, 1]))
    by_cases hE0 : E = 0
    · subst hE0
      rw [if_neg (by decide)] at hs0
      rw [HRE.out rfl] at CRx
      obtain ⟨l, hl8⟩ : ∃ l, rdb M pc 8 = l := ⟨_, rfl⟩
      have hll : l.length = 8 := by rw [← hl8]; exact rdb_length _ _ _
      rw [hl8] at hs0 CRx
      have CT := Lib.hid fun w' X d (hr : ∀ w'', Holds e w'' X → RdB w'' d l) (h : Holds e w' X) => ref48Take' l hll d hr h
      clear hE CR HRE hl8
      by_cases hok : insOk l = false
      · rw [if_pos hok] at hs0
        rw [hs0]
        dsimp only
        rw [hok] at CT
        obtain ⟨⟨op, kr, ks, imm⟩, hx⟩ : ∃ x, insOf l = x := ⟨_, rfl⟩
        rw [hx] at CT
        unfold InsS.val at CT
        dsimp only at CT
        clear hs0 hx hok
        go_enter Tryz.func20, Tryz.ntmps20
        go_wp2_with fail
        refine CRx.out.mono ?_
        rintro en w1 ⟨dv, rfl, H2⟩
        clear CRx H1 k1 k2 k3
        go_wp2_with fail
        refine (CT.out _ _ dv (fun w'' g => bts.reads g) H2).mono ?_
        rintro en w2 ⟨rfl, H3⟩
        have H4 : Holds e (w2.alloc (.cells #[.int .i64 op, .int .i64 kr, .int .i64 ks, .int .i32 imm] 88)) (refC rb zeroC :: refC cb ⟨[r0, r1, r2, r3], pc, dn, false⟩ :: refH v M :: R) := (H3.alloc _).re 5 [3, 4, 2]
        clear H2 H3 CT
        have hq := HK.out _ (H4)
        obtain ⟨k1, k2, k3⟩ := hq
        have HH := Lib.hid (refC.all (C' := ⟨[r0, r1, r2, r3], pc, dn, false⟩) rfl rfl (H4))
        dsimp only at HH
        go_wp2_with fail
        refine bodyPost_at HH.out fun w9 H9 => ?_
        have hc9 : ∀ j, w9.cell? ⟨rb, j, none⟩ = (#[.int .u64 r0, .int .u64 r1, .int .u64 r2, .int .u64 r3, .int .u64 pc, .int .i64 dn, .bool false] : Array Value)[j]? := Holds.cells H9
        exact bodyPost_ret (v := .tuple #[.agg #[.int .u64 r0, .int .u64 r1, .int .u64 r2, .int .u64 r3, .int .u64 pc, .int .i64 dn, .bool false], v, .int .i64 3]) (by simp [results, Tryz.results20, go_sem, hc9]) rfl ⟨v, rfl, H9.drop.drop⟩
      · have hok' : insOk l = true := by simpa using hok
        rw [if_neg hok] at hs0
        have hIO := insOf_ok hok'
        rw [hok'] at CT
        obtain ⟨x, hx⟩ : ∃ x, insOf l = x := ⟨_, rfl⟩
        rw [hx] at CT hs0 hIO
        obtain ⟨op, kr, ks, imm⟩ := x
        obtain ⟨⟨h1, h2⟩, ⟨h3, h4⟩, ⟨h5, h6⟩, h7, h8⟩ := hIO
        dsimp only at h1 h2 h3 h4 h5 h6 h7 h8
        obtain ⟨op, rfl⟩ : ∃ q : Nat, op = q := ⟨op.toNat, by omega⟩
        obtain ⟨kr, rfl⟩ : ∃ q : Nat, kr = q := ⟨kr.toNat, by omega⟩
        obtain ⟨ks, rfl⟩ : ∃ q : Nat, ks = q := ⟨ks.toNat, by omega⟩
        have hr : kr < 4 := by omega
        have hs : ks < 4 := by omega
        have ho : op < 8 := by omega
        have CW := Lib.hid fun w' X (h' : Holds e w' X) => ref48Wide ⟨op, kr, ks, imm⟩ h7 h8 h'
        unfold InsS.val at CT CW
        dsimp only at CT CW
        have hW64 := wideN_lt imm
        have HSS := Lib.hid hs0
        have krI : (kr : Int) < 4 := by omega
        have krI0 : (0 : Int) ≤ (kr : Int) := by omega
        have ksI : (ks : Int) < 4 := by omega
        have ksI0 : (0 : Int) ≤ (ks : Int) := by omega
        obtain ⟨W, hW⟩ : ∃ W, wideN imm = W := ⟨_, rfl⟩
        have HW := Lib.hid hW
        rw [hW] at CW hW64
        have hrk : [r0, r1, r2, r3].getD kr 0 < 18446744073709551616 := HCT.out.reg kr
        have hrs : [r0, r1, r2, r3].getD ks 0 < 18446744073709551616 := HCT.out.reg ks
        have hck := cp_reg (C := ⟨[r0, r1, r2, r3], pc, dn, false⟩) rfl hr
        have hcs := cp_reg (C := ⟨[r0, r1, r2, r3], pc, dn, false⟩) rfl hs
        dsimp only at hck hcs
        obtain ⟨rk, hrk2⟩ : ∃ rk, [r0, r1, r2, r3].getD kr 0 = rk := ⟨_, rfl⟩
        obtain ⟨rs, hrs2⟩ : ∃ rs, [r0, r1, r2, r3].getD ks 0 = rs := ⟨_, rfl⟩
        have HRK := Lib.hid hrk2
        have HRS := Lib.hid hrs2
        rw [hrk2] at hrk hck
        rw [hrs2] at hrs hcs
        have ha1 : IntKind.u64.wrap ((pc : Int) + 8) = (add64 pc 8 : Int) := add64_wrap pc 8
        have ha2 := add64_lt pc 8
        obtain ⟨pc8, hpc8⟩ : ∃ pc8, add64 pc 8 = pc8 := ⟨_, rfl⟩
        have HP8 := Lib.hid hpc8
        rw [hpc8] at ha1 ha2
        have hb1 := add64_wrap rs W
        have hb2 := add64_lt rs W
        obtain ⟨at', hat⟩ : ∃ at', add64 rs W = at' := ⟨_, rfl⟩
        have HAT := Lib.hid hat
        rw [hat] at hb1 hb2
        obtain ⟨dn1, hdn1⟩ : ∃ dn1, dn + 1 = dn1 := ⟨_, rfl⟩
        have hdI : (dn : Int) + 1 = (dn1 : Int) := by omega
        have hdb : dn1 ≤ 2000000000 := by omega
        have HDN := Lib.hid hdn1
        have HFC : Hid (∀ w' xb db X, Holds e w' (refC db ⟨[r0, r1, r2, r3], pc8, dn1, false⟩ :: pts xb (.cells #[.int .i64 op, .int .i64 kr, .int .i64 ks, .int .i32 imm] 88 (0, 0)) :: refC cb ⟨[r0, r1, r2, r3], pc, dn, false⟩ :: X) →
            (∀ j, w'.cell? ⟨xb, j, none⟩ = #[Value.int .i64 op, .int .i64 kr, .int .i64 ks, .int .i32 imm][j]?) ∧ (∀ j, w'.cell? ⟨cb, j, none⟩ = (#[.int .u64 r0, .int .u64 r1, .int .u64 r2, .int .u64 r3, .int .u64 pc, .int .i64 dn, .bool false] : Array Value)[j]?) ∧ w'.cell? ⟨cb, kr, none⟩ = some (.int .u64 (rk : Nat)) ∧ w'.cell? ⟨cb, ks, none⟩ = some (.int .u64 (rs : Nat)) ∧
            (∀ j, w'.cell? ⟨db, j, none⟩ = (#[.int .u64 r0, .int .u64 r1, .int .u64 r2, .int .u64 r3, .int .u64 pc8, .int .i64 dn1, .bool false] : Array Value)[j]?) ∧ (∀ j, w'.frozen? ⟨db, j, none⟩ = false) ∧ w'.cell? ⟨db, kr, none⟩ = some (.int .u64 (rk : Nat))) := Lib.hid fun w' xb db X h => by
          refine ⟨h.swap.cells, Holds.cells h.drop.swap, refC.cell h.drop.swap hck, refC.cell h.drop.swap hcs, Holds.cells h, Holds.frozen h, ?_⟩
          exact refC.cell h (by have := cp_reg (C := ⟨[r0, r1, r2, r3], pc8, dn1, false⟩) rfl hr; dsimp only at this; rw [HRK.out] at this; exact this)
        clear hs0 hx hok hok' h1 h2 h3 h4 h5 h6 hW hrk2 hrs2 hpc8 hat hdn1 hck hcs
        go_enter Tryz.func20, Tryz.ntmps20
        go_wp2_with fail
        refine CRx.out.mono ?_
        rintro en w1 ⟨dv, rfl, H2⟩
        clear CRx H1 k1 k2 k3
        go_wp2_with fail
        refine (CT.out _ _ dv (fun w'' g => bts.reads g) H2).mono ?_
        rintro en w2 ⟨rfl, H3⟩
        clear CT H2
        obtain ⟨k1, k2, k3⟩ := HK.out _ (H3.re 4 [2, 3, 1])
        have hlt1 : cb < w2.heap.size := Holds.lt (o := .cells (CpS.cells ⟨[r0, r1, r2, r3], pc, dn, false⟩).toArray 55 (0, 0)) (H3.re 4 [3])
        have hlt2 : rb < w2.heap.size := Holds.lt (o := .cells zeroC.cells.toArray 55 (0, 0)) (H3.re 4 [2])
        have H4 := (H3.alloc (.cells #[.int .i64 op, .int .i64 kr, .int .i64 ks, .int .i32 imm] 88)).alloc (.cells #[.int .u64 r0, .int .u64 r1, .int .u64 r2, .int .u64 r3, .int .u64 pc8, .int .i64 dn1, .bool false] 55)
        rw [World.size_alloc] at H4
        obtain ⟨xb, hxb⟩ : ∃ xb, w2.heap.size = xb := ⟨_, rfl⟩
        obtain ⟨db, hdb2⟩ : ∃ db, xb + 1 = db := ⟨_, rfl⟩
        rw [hxb, hdb2] at H4
        rw [hxb] at hlt1 hlt2
        have hne1 : ¬ cb = xb := by omega
        have hne2 : ¬ cb = db := by omega
        have hlt3 : cb < db := by omega
        have hlt4 : rb < db := by omega
        have hlt5 : xb < db := by omega
        have H5 : Holds e _ (refC db ⟨[r0, r1, r2, r3], pc8, dn1, false⟩ :: pts xb (.cells #[.int .i64 op, .int .i64 kr, .int .i64 ks, .int .i32 imm] 88 (0, 0)) :: refC cb ⟨[r0, r1, r2, r3], pc, dn, false⟩ :: refH v M :: refC rb zeroC :: R) := H4.re 6 [0, 1, 5, 3, 4]
        clear H3 H4
        go_wp2_with fail
        refine code_at H5 fun w5 H6 => ?_
        clear H5 k1 k2 k3 HK
        obtain ⟨I, Wf, hI, hW, hWs⟩ := worlds_of H6
        have q1 : ∀ i j, (Wf i).cell? ⟨xb, j, none⟩ = #[Value.int .i64 op, .int .i64 kr, .int .i64 ks, .int .i32 imm][j]? := fun i => (HFC.out _ _ _ _ (hW i)).1
        have q4 := fun i => (HFC.out _ _ _ _ (hW i)).2.2.2.1
        refine wp_region_holds hWs H6 (by kernel_rfl) (by kernel_rfl) ?_
        (repeat (go_big_quiet_step ((go_at_call 34; exact quietH (CW.out _ _ (hW _)) hWs)))); refine wpQuiet_nil ?_; intro _ hw'; obtain ⟨nq, hw''⟩ := hw'; subst hw''
        have H7 := hW nq
        generalize Wf nq = w6 at *
        clear q1 q4 hW hWs H6
        have hne3 : ¬ rb = db := by omega
        have hne4 : ¬ db = rb := by omega
        have HRB : Hid (∀ w' CC Y1 Y2 Y3 X, Holds e w' (refC db CC :: Y1 :: Y2 :: Y3 :: refC rb zeroC :: X) → (∀ j, w'.cell? ⟨rb, j, none⟩ = (#[.int .u64 0, .int .u64 0, .int .u64 0, .int .u64 0, .int .u64 0, .int .i64 0, .bool false] : Array Value)[j]?) ∧ (∀ j, w'.frozen? ⟨rb, j, none⟩ = false)) := Lib.hid fun w' CC Y1 Y2 Y3 X h =>
          ⟨Holds.cells (c := zeroC.cells.toArray) (T := 55) (fz := (0, 0)) (h.re 5 [4]), Holds.frozen (c := zeroC.cells.toArray) (T := 55) (h.re 5 [4])⟩
        have hop : op = 0 ∨ op = 1 ∨ op = 2 ∨ op = 3 ∨ op = 4 ∨ op = 5 ∨ op = 6 ∨ op = 7 := by omega
        rcases hop with rfl | rfl | rfl | rfl | rfl | rfl | rfl | rfl
        · -- halt
          have HE : Hid (stepS M ⟨[r0, r1, r2, r3], pc, dn, false⟩ = (0, ⟨[r0, r1, r2, r3], pc, dn1, true⟩, M)) := Lib.hid (by
            rw [HSS.out, HP8.out]
            have e1 : sub64 pc8 8 = pc := by rw [← HP8.out]; unfold sub64 add64; omega
            simp [execC, e1, HDN.out])
          have HA := refC.set (k := 4) (v := .int .u64 pc) (C' := ⟨[r0, r1, r2, r3], pc, dn1, true⟩) (refC.set (k := 6) (v := .bool true) (C' := ⟨[r0, r1, r2, r3], pc8, dn1, true⟩) H7 rfl) rfl
          have HB := Lib.hid (refC.all (C' := ⟨[r0, r1, r2, r3], pc, dn1, true⟩) rfl rfl (HA.re 5 [4, 3]))
          dsimp only at HB
          obtain ⟨k1, k2, k3, k4, k5, k6, k7⟩ := HFC.out _ _ _ _ H7
          obtain ⟨j1, j2⟩ := HRB.out _ _ _ _ _ _ H7
          clear HA H7 k7
          go_wp2_with fail
          refine bodyPost_at HB.out fun w9 H9 => ?_
          have hc9 : ∀ j, w9.cell? ⟨rb, j, none⟩ = (#[.int .u64 r0, .int .u64 r1, .int .u64 r2, .int .u64 r3, .int .u64 pc, .int .i64 dn1, .bool true] : Array Value)[j]? := Holds.cells H9
          exact bodyPost_ret (v := .tuple #[.agg #[.int .u64 r0, .int .u64 r1, .int .u64 r2, .int .u64 r3, .int .u64 pc, .int .i64 dn1, .bool true], v, .int .i64 0]) (by simp [results, Tryz.results20, go_sem, hc9]) rfl ⟨v, by rw [HE.out]; rfl, by rw [HE.out]; exact H9.drop⟩
        · -- set
          have HE : Hid (stepS M ⟨[r0, r1, r2, r3], pc, dn, false⟩ = (0, ⟨[r0, r1, r2, r3].set kr W, pc8, dn1, false⟩, M)) := Lib.hid (by
            rw [HSS.out, HP8.out, ← HW.out, ← HDN.out]
            rfl)
          have p1 := (HFC.out _ _ _ _ H7).1
          go_wp2_with fail
          clear p1
          obtain ⟨I, Wf, hI, hW, hWs⟩ := worlds_of H7
          have q1 := fun i => (HFC.out _ _ _ _ (hW i)).1
          have q3 := fun i => (HFC.out _ _ _ _ (hW i)).2.2.1
          have q4 := fun i => (HFC.out _ _ _ _ (hW i)).2.2.2.1
          have q5 := fun i => (HFC.out _ _ _ _ (hW i)).2.2.2.2.2.1
          have q7 := fun i => (HFC.out _ _ _ _ (hW i)).2.2.2.2.2.2
          refine wp_region_last (C := fun w' => ∃ i, w' = Wf i) rfl (by kernel_rfl) (by kernel_rfl) rfl (hWs _ (H7.drawn _)) ?_
          simp only [List.dropLast]
          (repeat (go_big_quiet_step ((go_at_call 34; exact quietH (CW.out _ _ (hW _)) hWs)))); refine wpQuiet_nil ?_; intro _ hw'; obtain ⟨nq, hw''⟩ := hw'; subst hw''
          unfold Oper.wp
          go_simp
          have HN := hW nq
          generalize Wf nq = w7 at *
          clear q1 q3 q4 q5 q7 hW hWs H7
          have HS := refC.set (v := .int .u64 (W : Nat)) (C' := ⟨[r0, r1, r2, r3].set kr W, pc8, dn1, false⟩) HN (cp_setR (C := ⟨[r0, r1, r2, r3], pc8, dn1, false⟩) rfl hr W)
          clear HN
          generalize w7.setCell ⟨db, kr, none⟩ (.int .u64 ((W : Nat) : Int)) = w8 at HS ⊢
          have H8 := HS
          clear HS
          obtain ⟨s0, s1, s2, s3, hs4⟩ := list4 (l := [r0, r1, r2, r3].set kr W) (by simp)
          rw [hs4] at H8
          have HSV := Lib.hid hs4
          have HB := Lib.hid (refC.all (C' := ⟨[s0, s1, s2, s3], pc8, dn1, false⟩) rfl rfl (H8.re 5 [4, 3]))
          dsimp only at HB
          have k5 : ∀ j, w8.cell? ⟨db, j, none⟩ = (#[.int .u64 s0, .int .u64 s1, .int .u64 s2, .int .u64 s3, .int .u64 pc8, .int .i64 dn1, .bool false] : Array Value)[j]? := Holds.cells H8
          obtain ⟨j1, j2⟩ := HRB.out _ _ _ _ _ _ H8
          clear H8 hs4
          go_wp2_with fail
          refine bodyPost_at HB.out fun w9 H9 => ?_
          have hc9 : ∀ j, w9.cell? ⟨rb, j, none⟩ = (#[.int .u64 s0, .int .u64 s1, .int .u64 s2, .int .u64 s3, .int .u64 pc8, .int .i64 dn1, .bool false] : Array Value)[j]? := Holds.cells H9
          exact bodyPost_ret (v := .tuple #[.agg #[.int .u64 s0, .int .u64 s1, .int .u64 s2, .int .u64 s3, .int .u64 pc8, .int .i64 dn1, .bool false], v, .int .i64 0]) (by simp [results, Tryz.results20, go_sem, hc9]) rfl ⟨v, by rw [HE.out, HSV.out]; rfl, by rw [HE.out]; exact H9.drop⟩
        · -- add
          have hw2 := add64_wrap rk at'
          have hx2 := add64_lt rk at'
          obtain ⟨t2, ht2⟩ : ∃ t2, add64 rk at' = t2 := ⟨_, rfl⟩
          rw [ht2] at hw2 hx2
          have HE : Hid (stepS M ⟨[r0, r1, r2, r3], pc, dn, false⟩ = (0, ⟨[r0, r1, r2, r3].set kr t2, pc8, dn1, false⟩, M)) := Lib.hid (by
            rw [HSS.out, HP8.out, ← ht2, ← HAT.out, ← HRK.out, ← HRS.out, ← HW.out, ← HDN.out]
            rfl)
          clear ht2
          have p1 := (HFC.out _ _ _ _ H7).1
          go_wp2_with fail
          clear p1
          obtain ⟨I, Wf, hI, hW, hWs⟩ := worlds_of H7
          have q1 := fun i => (HFC.out _ _ _ _ (hW i)).1
          have q3 := fun i => (HFC.out _ _ _ _ (hW i)).2.2.1
          have q4 := fun i => (HFC.out _ _ _ _ (hW i)).2.2.2.1
          have q5 := fun i => (HFC.out _ _ _ _ (hW i)).2.2.2.2.2.1
          have q7 := fun i => (HFC.out _ _ _ _ (hW i)).2.2.2.2.2.2
          refine wp_region_last (C := fun w' => ∃ i, w' = Wf i) rfl (by kernel_rfl) (by kernel_rfl) rfl (hWs _ (H7.drawn _)) ?_
          simp only [List.dropLast]
          (repeat (go_big_quiet_step (fail))); refine wpQuiet_nil ?_; intro _ hw'; obtain ⟨nq, hw''⟩ := hw'; subst hw''
          unfold Oper.wp
          go_simp
          have HN := hW nq
          generalize Wf nq = w7 at *
          clear q1 q3 q4 q5 q7 hW hWs H7
          have HS := refC.set (v := .int .u64 (t2 : Nat)) (C' := ⟨[r0, r1, r2, r3].set kr t2, pc8, dn1, false⟩) HN (cp_setR (C := ⟨[r0, r1, r2, r3], pc8, dn1, false⟩) rfl hr t2)
          clear HN
          generalize w7.setCell ⟨db, kr, none⟩ (.int .u64 ((t2 : Nat) : Int)) = w8 at HS ⊢
          have H8 := HS
          clear HS
          obtain ⟨s0, s1, s2, s3, hs4⟩ := list4 (l := [r0, r1, r2, r3].set kr t2) (by simp)
          rw [hs4] at H8
          have HSV := Lib.hid hs4
          have HB := Lib.hid (refC.all (C' := ⟨[s0, s1, s2, s3], pc8, dn1, false⟩) rfl rfl (H8.re 5 [4, 3]))
          dsimp only at HB
          have k5 : ∀ j, w8.cell? ⟨db, j, none⟩ = (#[.int .u64 s0, .int .u64 s1, .int .u64 s2, .int .u64 s3, .int .u64 pc8, .int .i64 dn1, .bool false] : Array Value)[j]? := Holds.cells H8
          obtain ⟨j1, j2⟩ := HRB.out _ _ _ _ _ _ H8
          clear H8 hs4
          go_wp2_with fail
          refine bodyPost_at HB.out fun w9 H9 => ?_
          have hc9 : ∀ j, w9.cell? ⟨rb, j, none⟩ = (#[.int .u64 s0, .int .u64 s1, .int .u64 s2, .int .u64 s3, .int .u64 pc8, .int .i64 dn1, .bool false] : Array Value)[j]? := Holds.cells H9
          exact bodyPost_ret (v := .tuple #[.agg #[.int .u64 s0, .int .u64 s1, .int .u64 s2, .int .u64 s3, .int .u64 pc8, .int .i64 dn1, .bool false], v, .int .i64 0]) (by simp [results, Tryz.results20, go_sem, hc9]) rfl ⟨v, by rw [HE.out, HSV.out]; rfl, by rw [HE.out]; exact H9.drop⟩
        · -- sub
          have hw2 := sub64_wrap (a := rk) hrs
          have hx2 := sub64_lt rk rs
          obtain ⟨t2, ht2⟩ : ∃ t2, sub64 rk rs = t2 := ⟨_, rfl⟩
          rw [ht2] at hw2 hx2
          have HE : Hid (stepS M ⟨[r0, r1, r2, r3], pc, dn, false⟩ = (0, ⟨[r0, r1, r2, r3].set kr t2, pc8, dn1, false⟩, M)) := Lib.hid (by
            rw [HSS.out, HP8.out, ← ht2, ← HRK.out, ← HRS.out, ← HDN.out]
            rfl)
          clear ht2
          have p1 := (HFC.out _ _ _ _ H7).1
          go_wp2_with fail
          clear p1
          obtain ⟨I, Wf, hI, hW, hWs⟩ := worlds_of H7
          have q1 := fun i => (HFC.out _ _ _ _ (hW i)).1
          have q3 := fun i => (HFC.out _ _ _ _ (hW i)).2.2.1
          have q4 := fun i => (HFC.out _ _ _ _ (hW i)).2.2.2.1
          have q5 := fun i => (HFC.out _ _ _ _ (hW i)).2.2.2.2.2.1
          have q7 := fun i => (HFC.out _ _ _ _ (hW i)).2.2.2.2.2.2
          refine wp_region_last (C := fun w' => ∃ i, w' = Wf i) rfl (by kernel_rfl) (by kernel_rfl) rfl (hWs _ (H7.drawn _)) ?_
          simp only [List.dropLast]
          (repeat (go_big_quiet_step (fail))); refine wpQuiet_nil ?_; intro _ hw'; obtain ⟨nq, hw''⟩ := hw'; subst hw''
          unfold Oper.wp
          go_simp
          have HN := hW nq
          generalize Wf nq = w7 at *
          clear q1 q3 q4 q5 q7 hW hWs H7
          have HS := refC.set (v := .int .u64 (t2 : Nat)) (C' := ⟨[r0, r1, r2, r3].set kr t2, pc8, dn1, false⟩) HN (cp_setR (C := ⟨[r0, r1, r2, r3], pc8, dn1, false⟩) rfl hr t2)
          clear HN
          generalize w7.setCell ⟨db, kr, none⟩ (.int .u64 ((t2 : Nat) : Int)) = w8 at HS ⊢
          have H8 := HS
          clear HS
          obtain ⟨s0, s1, s2, s3, hs4⟩ := list4 (l := [r0, r1, r2, r3].set kr t2) (by simp)
          rw [hs4] at H8
          have HSV := Lib.hid hs4
          have HB := Lib.hid (refC.all (C' := ⟨[s0, s1, s2, s3], pc8, dn1, false⟩) rfl rfl (H8.re 5 [4, 3]))
          dsimp only at HB
          have k5 : ∀ j, w8.cell? ⟨db, j, none⟩ = (#[.int .u64 s0, .int .u64 s1, .int .u64 s2, .int .u64 s3, .int .u64 pc8, .int .i64 dn1, .bool false] : Array Value)[j]? := Holds.cells H8
          obtain ⟨j1, j2⟩ := HRB.out _ _ _ _ _ _ H8
          clear H8 hs4
          go_wp2_with fail
          refine bodyPost_at HB.out fun w9 H9 => ?_
          have hc9 : ∀ j, w9.cell? ⟨rb, j, none⟩ = (#[.int .u64 s0, .int .u64 s1, .int .u64 s2, .int .u64 s3, .int .u64 pc8, .int .i64 dn1, .bool false] : Array Value)[j]? := Holds.cells H9
          exact bodyPost_ret (v := .tuple #[.agg #[.int .u64 s0, .int .u64 s1, .int .u64 s2, .int .u64 s3, .int .u64 pc8, .int .i64 dn1, .bool false], v, .int .i64 0]) (by simp [results, Tryz.results20, go_sem, hc9]) rfl ⟨v, by rw [HE.out, HSV.out]; rfl, by rw [HE.out]; exact H9.drop⟩
        · -- load
          have CL := Lib.hid fun w' X (h : Holds e w' (refH v M :: X)) => ref37Read HOT.out hl at' hb2 8 (by omega) (by omega) 1 (by omega) h
          obtain ⟨F, hF⟩ : ∃ F, chk M at' 8 1 = F := ⟨_, rfl⟩
          have HRF : Hid (F = 0 → rdE M at' 8 1 = rdb M at' 8) := Lib.hid fun h => by unfold rdE; rw [if_pos (hF.trans h)]; rfl
          have HXC : Hid (execC ⟨(4 : Nat), kr, ks, imm⟩ M ⟨[r0, r1, r2, r3], pc8, dn, false⟩ = (F, ldC ⟨[r0, r1, r2, r3], pc8, dn, false⟩ kr F (unle (rdb M at' 8)), M)) := Lib.hid (by
            rw [← hF, ← HAT.out, ← HRS.out, ← HW.out]
            rfl)
          rw [hF] at CL
          have CL7 := Lib.hid (CL.out _ _ (H7.re 4 [3, 0, 1, 2]))
          have p1 := (HFC.out _ _ _ _ H7).1
          by_cases hF0 : F = 0
          · subst hF0
            rw [HRF.out rfl] at CL7
            obtain ⟨bl, hbl⟩ : ∃ bl, rdb M at' 8 = bl := ⟨_, rfl⟩
            have hbll : bl.length = 8 := by rw [← hbl]; exact rdb_length _ _ _
            obtain ⟨t2, ht2⟩ : ∃ t2, unle bl = t2 := ⟨_, rfl⟩
            have hx2 : t2 < 18446744073709551616 := by rw [← ht2]; exact unle8_lt hbll
            have HE : Hid (stepS M ⟨[r0, r1, r2, r3], pc, dn, false⟩ = (0, ⟨[r0, r1, r2, r3].set kr t2, pc8, dn1, false⟩, M)) := Lib.hid (by
              rw [HSS.out, HP8.out, HXC.out, hbl, ht2, ← HDN.out]
              rfl)
            rw [hbl] at CL7
            have CG : Hid (∀ w' X bv, Holds e w' (bts bv bl :: X) → Calls Tryz.prog 35 #[bv, .int .i64 0, .int .i64 8] w' (Ret e (.int .u64 t2) (bts bv bl :: X))) := Lib.hid fun w' X bv h => by
              have h2 := ref01Get bl 0 8 (by omega) (by omega) (by omega) (by omega) bv (bts.reads h)
              have h3 := retQ h2 h
              have e1 : (bl.drop 0).take 8 = bl := by rw [List.drop_zero, List.take_of_length_le (by omega)]
              rw [e1, ht2] at h3
              exact h3
            clear ht2 hbl hF HRF HXC CL
            go_wp2_with fail
            refine CL7.out.mono ?_
            rintro en w7 ⟨bv, rfl, H8⟩
            clear CL7 p1 H7
            have HBV : Hid (∀ w' A1 A2 A3 X, Holds e w' (bts bv bl :: refH v M :: A1 :: A2 :: A3 :: X) → Holds e w' (A1 :: A2 :: A3 :: refH v M :: X)) := Lib.hid fun w' A1 A2 A3 X h => h.re 5 [2, 3, 4, 1]
            have HBW : Hid (∀ w' A1 A2 A3 X, Holds e w' (bts bv bl :: refH v M :: A1 :: A2 :: A3 :: X) → Holds e w' (bts bv bl :: refH v M :: A1 :: A2 :: A3 :: X)) := Lib.hid fun w' A1 A2 A3 X h => h
            go_wp2_with fail
            obtain ⟨I, Wf, hI, hW, hWs⟩ := worlds_of H8
            have q1 := fun i => (HFC.out _ _ _ _ (HBV.out _ _ _ _ _ (hW i))).1
            have q5 := fun i => (HFC.out _ _ _ _ (HBV.out _ _ _ _ _ (hW i))).2.2.2.2.2.1
            have q7 := fun i => (HFC.out _ _ _ _ (HBV.out _ _ _ _ _ (hW i))).2.2.2.2.2.2
            refine wp_region_last (C := fun w' => ∃ i, w' = Wf i) rfl (by kernel_rfl) (by kernel_rfl) rfl (hWs _ (H8.drawn _)) ?_
            simp only [List.dropLast]
            (repeat (go_big_quiet_step ((go_at_call 35; exact quietH (CG.out _ _ _ (hW _)) hWs)))); refine wpQuiet_nil ?_; intro _ hw'; obtain ⟨nq, hw''⟩ := hw'; subst hw''
            unfold Oper.wp
            go_simp
            have HN := HBV.out _ _ _ _ _ (hW nq)
            generalize Wf nq = w7 at *
            clear q1 q5 q7 hW hWs H8
            have HS := refC.set (v := .int .u64 (t2 : Nat)) (C' := ⟨[r0, r1, r2, r3].set kr t2, pc8, dn1, false⟩) HN (cp_setR (C := ⟨[r0, r1, r2, r3], pc8, dn1, false⟩) rfl hr t2)
            clear HN
            generalize w7.setCell ⟨db, kr, none⟩ (.int .u64 ((t2 : Nat) : Int)) = w8 at HS ⊢
            have H8 := HS
            clear HS
            obtain ⟨s0, s1, s2, s3, hs4⟩ := list4 (l := [r0, r1, r2, r3].set kr t2) (by simp)
            rw [hs4] at H8
            have HSV := Lib.hid hs4
            have HB := Lib.hid (refC.all (C' := ⟨[s0, s1, s2, s3], pc8, dn1, false⟩) rfl rfl (H8.re 5 [4, 3]))
            dsimp only at HB
            have k5 : ∀ j, w8.cell? ⟨db, j, none⟩ = (#[.int .u64 s0, .int .u64 s1, .int .u64 s2, .int .u64 s3, .int .u64 pc8, .int .i64 dn1, .bool false] : Array Value)[j]? := Holds.cells H8
            obtain ⟨j1, j2⟩ := HRB.out _ _ _ _ _ _ H8
            clear H8 hs4
            go_wp2_with fail
            refine bodyPost_at HB.out fun w9 H9 => ?_
            have hc9 : ∀ j, w9.cell? ⟨rb, j, none⟩ = (#[.int .u64 s0, .int .u64 s1, .int .u64 s2, .int .u64 s3, .int .u64 pc8, .int .i64 dn1, .bool false] : Array Value)[j]? := Holds.cells H9
            exact bodyPost_ret (v := .tuple #[.agg #[.int .u64 s0, .int .u64 s1, .int .u64 s2, .int .u64 s3, .int .u64 pc8, .int .i64 dn1, .bool false], v, .int .i64 0]) (by simp [results, Tryz.results20, go_sem, hc9]) rfl ⟨v, by rw [HE.out, HSV.out]; rfl, by rw [HE.out]; exact H9.drop⟩
          · have HE : Hid (stepS M ⟨[r0, r1, r2, r3], pc, dn, false⟩ = (F, ⟨[r0, r1, r2, r3], pc, dn, false⟩, M)) := Lib.hid (by
              rw [HSS.out, HP8.out, HXC.out, if_pos hF0])
            have hFb : ((F : Int) != 0) = true := by simpa using hF0
            clear hF HRF HXC CL
            go_wp2_with fail
            refine CL7.out.mono ?_
            rintro en w7 ⟨bv, rfl, H8⟩
            have H9 := H8.re 6 [2, 3, 4, 1, 5]
            obtain ⟨k1, k2, k3, k4, k5, k6, k7⟩ := HFC.out _ _ _ _ H9
            obtain ⟨j1, j2⟩ := HRB.out _ _ _ _ _ _ H9
            have HB := Lib.hid (refC.all (C' := ⟨[r0, r1, r2, r3], pc, dn, false⟩) rfl rfl (H9.re 5 [4, 3]))
            dsimp only at HB
            clear CL7 p1 H7 H8 H9 k7
            go_wp2_with fail
            refine bodyPost_at HB.out fun w9 H9 => ?_
            have hc9 : ∀ j, w9.cell? ⟨rb, j, none⟩ = (#[.int .u64 r0, .int .u64 r1, .int .u64 r2, .int .u64 r3, .int .u64 pc, .int .i64 dn, .bool false] : Array Value)[j]? := Holds.cells H9
            exact bodyPost_ret (v := .tuple #[.agg #[.int .u64 r0, .int .u64 r1, .int .u64 r2, .int .u64 r3, .int .u64 pc, .int .i64 dn, .bool false], v, .int .i64 F]) (by simp [results, Tryz.results20, go_sem, hc9]) rfl ⟨v, by rw [HE.out]; rfl, by rw [HE.out]; exact H9.drop⟩
        · -- store
          obtain ⟨F, hF⟩ : ∃ F, chk M at' 8 2 = F := ⟨_, rfl⟩
          have hle : (le 8 rk).length = 8 := le_length _ _
          have CPT := Lib.hid fun w' X (h : Holds e w' X) => ref01Put 8 (by omega) rk hrk h
          have HXC : Hid (execC ⟨(5 : Nat), kr, ks, imm⟩ M ⟨[r0, r1, r2, r3], pc8, dn, false⟩ = (F, ⟨[r0, r1, r2, r3], pc8, dn, false⟩, stoP M at' (le 8 rk))) := Lib.hid (by
            rw [← hF, ← HAT.out, ← HRS.out, ← HRK.out, ← HW.out]
            rfl)
          obtain ⟨k1, k2, k3, k4, k5, k6, k7⟩ := HFC.out _ _ _ _ H7
          by_cases hF0 : F = 0
          · subst hF0
            have CWR : Hid (∀ w' X pv, Holds e w' (bts pv (le 8 rk) :: refH v M :: X) → Calls Tryz.prog 32 #[v, .int .u64 at', pv] w' (RetEx e (fun v' : Value => .tuple #[v', .int .i64 0]) (fun v' => refH v' (stoP M at' (le 8 rk)) :: X))) := Lib.hid fun w' X pv h => by
              have h1 := ref37Write (d := pv) HOT.out hl at' hb2 (le 8 rk) (by omega) (fun w'' g => bts.reads g) h.swap
              have h2 : chk M at' ((le 8 rk).length : Nat) 2 = 0 := by rw [hle]; exact hF
              rw [h2] at h1
              exact h1.mono fun _ _ ⟨x, g1, g2⟩ => ⟨x, g1, g2.d1⟩
            have HE : Hid (stepS M ⟨[r0, r1, r2, r3], pc, dn, false⟩ = (0, ⟨[r0, r1, r2, r3], pc8, dn1, false⟩, stoP M at' (le 8 rk))) := Lib.hid (by
              rw [HSS.out, HP8.out, HXC.out, ← HDN.out]
              rfl)
            clear hF HXC k2 k5 k7
            go_wp2_with fail
            refine (CPT.out _ _ H7).mono ?_
            rintro en w7 ⟨pv, rfl, H8⟩
            clear H7 k1 k3 k4 k6
            go_wp2_with fail
            refine (CWR.out _ _ _ (H8.re 5 [0, 4, 1, 2, 3])).mono ?_
            rintro en w8 ⟨v, rfl, H9⟩
            have H8 := H9.re 5 [1, 2, 3, 0, 4]
            clear H9
            obtain ⟨s0, s1, s2, s3, hs4⟩ := list4 (l := [r0, r1, r2, r3]) (by simp)
            rw [hs4] at H8
            have HSV := Lib.hid hs4
            have HB := Lib.hid (refC.all (C' := ⟨[s0, s1, s2, s3], pc8, dn1, false⟩) rfl rfl (H8.re 5 [4, 3]))
            dsimp only at HB
            have k5 : ∀ j, w8.cell? ⟨db, j, none⟩ = (#[.int .u64 s0, .int .u64 s1, .int .u64 s2, .int .u64 s3, .int .u64 pc8, .int .i64 dn1, .bool false] : Array Value)[j]? := Holds.cells H8
            obtain ⟨j1, j2⟩ := HRB.out _ _ _ _ _ _ H8
            clear H8 hs4
            go_wp2_with fail
            refine bodyPost_at HB.out fun w9 H9 => ?_
            have hc9 : ∀ j, w9.cell? ⟨rb, j, none⟩ = (#[.int .u64 s0, .int .u64 s1, .int .u64 s2, .int .u64 s3, .int .u64 pc8, .int .i64 dn1, .bool false] : Array Value)[j]? := Holds.cells H9
            exact bodyPost_ret (v := .tuple #[.agg #[.int .u64 s0, .int .u64 s1, .int .u64 s2, .int .u64 s3, .int .u64 pc8, .int .i64 dn1, .bool false], v, .int .i64 0]) (by simp [results, Tryz.results20, go_sem, hc9]) rfl ⟨v, by rw [HE.out, HSV.out]; rfl, by rw [HE.out]; exact H9.drop⟩
          · have CWR : Hid (∀ w' X pv, Holds e w' (bts pv (le 8 rk) :: refH v M :: X) → Calls Tryz.prog 32 #[v, .int .u64 at', pv] w' (Ret e (.tuple #[v, .int .i64 F]) (refH v M :: X))) := Lib.hid fun w' X pv h => by
              have h2 : chk M at' ((le 8 rk).length : Nat) 2 = F := by rw [hle]; exact hF
              have h1 := ref37WriteE (d := pv) HOT.out hl at' hb2 (le 8 rk) (by omega) (by rw [h2]; exact hF0) (fun w'' g => bts.reads g) h.swap
              rw [h2] at h1
              exact retC h1 fun _ g => g.d1
            have HE : Hid (stepS M ⟨[r0, r1, r2, r3], pc, dn, false⟩ = (F, ⟨[r0, r1, r2, r3], pc, dn, false⟩, M)) := Lib.hid (by
              rw [HSS.out, HP8.out, HXC.out, if_pos hF0])
            have hFb : ((F : Int) != 0) = true := by simpa using hF0
            clear hF HXC k2 k5 k7
            go_wp2_with fail
            refine (CPT.out _ _ H7).mono ?_
            rintro en w7 ⟨pv, rfl, H8⟩
            clear H7 k1 k3 k4 k6
            go_wp2_with fail
            refine (CWR.out _ _ _ (H8.re 5 [0, 4, 1, 2, 3])).mono ?_
            rintro en w8 ⟨rfl, H9⟩
            have H8' := H9.re 5 [1, 2, 3, 0, 4]
            obtain ⟨k1, k2, k3, k4, k5, k6, k7⟩ := HFC.out _ _ _ _ H8'
            obtain ⟨j1, j2⟩ := HRB.out _ _ _ _ _ _ H8'
            have HB := Lib.hid (refC.all (C' := ⟨[r0, r1, r2, r3], pc, dn, false⟩) rfl rfl (H8'.re 5 [4, 3]))
            dsimp only at HB
            clear H8 H8' H9 k7
            go_wp2_with fail
            refine bodyPost_at HB.out fun w9 H9 => ?_
            have hc9 : ∀ j, w9.cell? ⟨rb, j, none⟩ = (#[.int .u64 r0, .int .u64 r1, .int .u64 r2, .int .u64 r3, .int .u64 pc, .int .i64 dn, .bool false] : Array Value)[j]? := Holds.cells H9
            exact bodyPost_ret (v := .tuple #[.agg #[.int .u64 r0, .int .u64 r1, .int .u64 r2, .int .u64 r3, .int .u64 pc, .int .i64 dn, .bool false], v, .int .i64 F]) (by simp [results, Tryz.results20, go_sem, hc9]) rfl ⟨v, by rw [HE.out]; rfl, by rw [HE.out]; exact H9.drop⟩
        · -- jump
          have hw2 : IntKind.u64.wrap ((8 : Int) * (W : Int)) = (mul64 8 W : Int) := mul64_wrap 8 W
          have hx2 := mul64_lt 8 W
          obtain ⟨t2, ht2⟩ : ∃ t2, mul64 8 W = t2 := ⟨_, rfl⟩
          rw [ht2] at hw2 hx2
          have hw3 := add64_wrap pc t2
          have hx3 := add64_lt pc t2
          obtain ⟨t3, ht3⟩ : ∃ t3, add64 pc t2 = t3 := ⟨_, rfl⟩
          rw [ht3] at hw3 hx3
          have HXC : Hid (execC ⟨(6 : Nat), kr, ks, imm⟩ M ⟨[r0, r1, r2, r3], pc8, dn, false⟩ = (0, ⟨[r0, r1, r2, r3], if rk = 0 then pc8 else t3, dn, false⟩, M)) := Lib.hid (by
            have e1 : t3 = add64 pc8 (mul64 8 (sub64 W 1)) := by
              rw [← ht3, ← ht2, ← HP8.out]
              unfold add64 mul64 sub64
              omega
            rw [e1, ← HRK.out, ← HW.out]
            rfl)
          have hpl : ([r0, r1, r2, r3] : List Nat).length = 4 := rfl
          by_cases h0 : rk = 0
          · subst h0
            have HE : Hid (stepS M ⟨[r0, r1, r2, r3], pc, dn, false⟩ = (0, ⟨[r0, r1, r2, r3], pc8, dn1, false⟩, M)) := Lib.hid (by
              rw [HSS.out, HP8.out, HXC.out, ← HDN.out]
              rfl)
            obtain ⟨k1, k2, k3, k4, k5, k6, k7⟩ := HFC.out _ _ _ _ H7
            have hb0 : (((0 : Nat) : Int) != 0) = false := rfl
            clear HXC k2 k4 k5 k6 k7
            generalize w6 = w8 at *
            have H8 := H7
            clear H7
            obtain ⟨s0, s1, s2, s3, hs4⟩ := list4 (l := [r0, r1, r2, r3]) (by simp)
            rw [hs4] at H8
            have HSV := Lib.hid hs4
            have HB := Lib.hid (refC.all (C' := ⟨[s0, s1, s2, s3], pc8, dn1, false⟩) rfl rfl (H8.re 5 [4, 3]))
            dsimp only at HB
            have k5 : ∀ j, w8.cell? ⟨db, j, none⟩ = (#[.int .u64 s0, .int .u64 s1, .int .u64 s2, .int .u64 s3, .int .u64 pc8, .int .i64 dn1, .bool false] : Array Value)[j]? := Holds.cells H8
            obtain ⟨j1, j2⟩ := HRB.out _ _ _ _ _ _ H8
            clear H8 hs4
            go_wp2_with fail
            refine bodyPost_at HB.out fun w9 H9 => ?_
            have hc9 : ∀ j, w9.cell? ⟨rb, j, none⟩ = (#[.int .u64 s0, .int .u64 s1, .int .u64 s2, .int .u64 s3, .int .u64 pc8, .int .i64 dn1, .bool false] : Array Value)[j]? := Holds.cells H9
            exact bodyPost_ret (v := .tuple #[.agg #[.int .u64 s0, .int .u64 s1, .int .u64 s2, .int .u64 s3, .int .u64 pc8, .int .i64 dn1, .bool false], v, .int .i64 0]) (by simp [results, Tryz.results20, go_sem, hc9]) rfl ⟨v, by rw [HE.out, HSV.out]; rfl, by rw [HE.out]; exact H9.drop⟩
          · have HE : Hid (stepS M ⟨[r0, r1, r2, r3], pc, dn, false⟩ = (0, ⟨[r0, r1, r2, r3], t3, dn1, false⟩, M)) := Lib.hid (by
              rw [HSS.out, HP8.out, HXC.out, ← HDN.out, if_neg h0]
              rfl)
            have hb0 : ((rk : Int) != 0) = true := by simpa using h0
            obtain ⟨k1, k2, k3, k4, k5, k6, k7⟩ := HFC.out _ _ _ _ H7
            clear HXC ht2 ht3 k2 k5
            go_wp2_with fail
            clear k1 k3 k4 k6 k7
            obtain ⟨I, Wf, hI, hW, hWs⟩ := worlds_of H7
            have q1 := fun i => (HFC.out _ _ _ _ (hW i)).1
            have q2 := fun i => (HFC.out _ _ _ _ (hW i)).2.1
            have q5 := fun i => (HFC.out _ _ _ _ (hW i)).2.2.2.2.2.1
            have q6 := fun i => (HFC.out _ _ _ _ (hW i)).2.2.2.2.1
            refine wp_region_last (C := fun w' => ∃ i, w' = Wf i) rfl (by kernel_rfl) (by kernel_rfl) rfl (hWs _ (H7.drawn _)) ?_
            simp only [List.dropLast]
            (repeat (go_big_quiet_step ((go_at_call 34; exact quietH (CW.out _ _ (hW _)) hWs)))); refine wpQuiet_nil ?_; intro _ hw'; obtain ⟨nq, hw''⟩ := hw'; subst hw''
            unfold Oper.wp
            go_simp
            have HN := hW nq
            generalize Wf nq = w7 at *
            clear q1 q2 q5 q6 hW hWs H7
            have HS := refC.set (k := 4) (v := .int .u64 ((t3 : Nat) : Int)) (C' := ⟨[r0, r1, r2, r3], t3, dn1, false⟩) HN rfl
            clear HN
            generalize w7.setCell ⟨db, 4, none⟩ (.int .u64 ((t3 : Nat) : Int)) = w8 at HS ⊢
            have H8 := HS
            clear HS
            obtain ⟨s0, s1, s2, s3, hs4⟩ := list4 (l := [r0, r1, r2, r3]) (by simp)
            rw [hs4] at H8
            have HSV := Lib.hid hs4
            have HB := Lib.hid (refC.all (C' := ⟨[s0, s1, s2, s3], t3, dn1, false⟩) rfl rfl (H8.re 5 [4, 3]))
            dsimp only at HB
            have k5 : ∀ j, w8.cell? ⟨db, j, none⟩ = (#[.int .u64 s0, .int .u64 s1, .int .u64 s2, .int .u64 s3, .int .u64 t3, .int .i64 dn1, .bool false] : Array Value)[j]? := Holds.cells H8
            obtain ⟨j1, j2⟩ := HRB.out _ _ _ _ _ _ H8
            clear H8 hs4
            go_wp2_with fail
            refine bodyPost_at HB.out fun w9 H9 => ?_
            have hc9 : ∀ j, w9.cell? ⟨rb, j, none⟩ = (#[.int .u64 s0, .int .u64 s1, .int .u64 s2, .int .u64 s3, .int .u64 t3, .int .i64 dn1, .bool false] : Array Value)[j]? := Holds.cells H9
            exact bodyPost_ret (v := .tuple #[.agg #[.int .u64 s0, .int .u64 s1, .int .u64 s2, .int .u64 s3, .int .u64 t3, .int .i64 dn1, .bool false], v, .int .i64 0]) (by simp [results, Tryz.results20, go_sem, hc9]) rfl ⟨v, by rw [HE.out, HSV.out]; rfl, by rw [HE.out]; exact H9.drop⟩
        · -- xor
          have hw2 := u64_xor_nat rk rs hrk hrs
          have hx2 : rk ^^^ rs < 18446744073709551616 := Nat.xor_lt_two_pow (n := 64) hrk hrs
          obtain ⟨t2, ht2⟩ : ∃ t2, rk ^^^ rs = t2 := ⟨_, rfl⟩
          rw [ht2] at hw2 hx2
          have HE : Hid (stepS M ⟨[r0, r1, r2, r3], pc, dn, false⟩ = (0, ⟨[r0, r1, r2, r3].set kr t2, pc8, dn1, false⟩, M)) := Lib.hid (by
            rw [HSS.out, HP8.out, ← ht2, ← HRK.out, ← HRS.out, ← HDN.out]
            rfl)
          clear ht2
          have p1 := (HFC.out _ _ _ _ H7).1
          go_wp2_with fail
          clear p1
          obtain ⟨I, Wf, hI, hW, hWs⟩ := worlds_of H7
          have q1 := fun i => (HFC.out _ _ _ _ (hW i)).1
          have q3 := fun i => (HFC.out _ _ _ _ (hW i)).2.2.1
          have q4 := fun i => (HFC.out _ _ _ _ (hW i)).2.2.2.1
          have q5 := fun i => (HFC.out _ _ _ _ (hW i)).2.2.2.2.2.1
          have q7 := fun i => (HFC.out _ _ _ _ (hW i)).2.2.2.2.2.2
          refine wp_region_last (C := fun w' => ∃ i, w' = Wf i) rfl (by kernel_rfl) (by kernel_rfl) rfl (hWs _ (H7.drawn _)) ?_
          simp only [List.dropLast]
          (repeat (go_big_quiet_step (fail))); refine wpQuiet_nil ?_; intro _ hw'; obtain ⟨nq, hw''⟩ := hw'; subst hw''
          unfold Oper.wp
          go_simp
          have HN := hW nq
          generalize Wf nq = w7 at *
          clear q1 q3 q4 q5 q7 hW hWs H7
          have HS := refC.set (v := .int .u64 (t2 : Nat)) (C' := ⟨[r0, r1, r2, r3].set kr t2, pc8, dn1, false⟩) HN (cp_setR (C := ⟨[r0, r1, r2, r3], pc8, dn1, false⟩) rfl hr t2)
          clear HN
          generalize w7.setCell ⟨db, kr, none⟩ (.int .u64 ((t2 : Nat) : Int)) = w8 at HS ⊢
          have H8 := HS
          clear HS
          obtain ⟨s0, s1, s2, s3, hs4⟩ := list4 (l := [r0, r1, r2, r3].set kr t2) (by simp)
          rw [hs4] at H8
          have HSV := Lib.hid hs4
          have HB := Lib.hid (refC.all (C' := ⟨[s0, s1, s2, s3], pc8, dn1, false⟩) rfl rfl (H8.re 5 [4, 3]))
          dsimp only at HB
          have k5 : ∀ j, w8.cell? ⟨db, j, none⟩ = (#[.int .u64 s0, .int .u64 s1, .int .u64 s2, .int .u64 s3, .int .u64 pc8, .int .i64 dn1, .bool false] : Array Value)[j]? := Holds.cells H8
          obtain ⟨j1, j2⟩ := HRB.out _ _ _ _ _ _ H8
          clear H8 hs4
          go_wp2_with fail
          refine bodyPost_at HB.out fun w9 H9 => ?_
          have hc9 : ∀ j, w9.cell? ⟨rb, j, none⟩ = (#[.int .u64 s0, .int .u64 s1, .int .u64 s2, .int .u64 s3, .int .u64 pc8, .int .i64 dn1, .bool false] : Array Value)[j]? := Holds.cells H9
          exact bodyPost_ret (v := .tuple #[.agg #[.int .u64 s0, .int .u64 s1, .int .u64 s2, .int .u64 s3, .int .u64 pc8, .int .i64 dn1, .bool false], v, .int .i64 0]) (by simp [results, Tryz.results20, go_sem, hc9]) rfl ⟨v, by rw [HE.out, HSV.out]; rfl, by rw [HE.out]; exact H9.drop⟩
    · rw [if_pos hE0] at hs0
      rw [hs0]
      dsimp only
      have hEb : ((E : Int) != 0) = true := by simpa using hE0
      clear hs0 hE HRE CR
      go_enter Tryz.func20, Tryz.ntmps20
      go_wp2_with fail
      refine CRx.out.mono ?_
      rintro en w1 ⟨dv, rfl, H2⟩
      have H4 : Holds e w1 (refC rb zeroC :: refC cb ⟨[r0, r1, r2, r3], pc, dn, false⟩ :: refH v M :: R) := H2.re 4 [2, 3, 1]
      clear CRx H1 H2 k1 k2 k3
      have hq := HK.out _ (H4)
      obtain ⟨k1, k2, k3⟩ := hq
      have HH := Lib.hid (refC.all (C' := ⟨[r0, r1, r2, r3], pc, dn, false⟩) rfl rfl (H4))
      dsimp only at HH
      go_wp2_with fail
      refine bodyPost_at HH.out fun w9 H9 => ?_
      have hc9 : ∀ j, w9.cell? ⟨rb, j, none⟩ = (#[.int .u64 r0, .int .u64 r1, .int .u64 r2, .int .u64 r3, .int .u64 pc, .int .i64 dn, .bool false] : Array Value)[j]? := Holds.cells H9
      exact bodyPost_ret (v := .tuple #[.agg #[.int .u64 r0, .int .u64 r1, .int .u64 r2, .int .u64 r3, .int .u64 pc, .int .i64 dn, .bool false], v, .int .i64 E]) (by simp [results, Tryz.results20, go_sem, hc9]) rfl ⟨v, rfl, H9.drop.drop⟩
  · have hs : stepS M ⟨[r0, r1, r2, r3], pc, dn, true⟩ = (6, ⟨[r0, r1, r2, r3], pc, dn, true⟩, M) := by unfold stepS; rw [if_pos rfl]
    rw [hs]
    dsimp only
    have hq := HK.out _ H1
    obtain ⟨k1, k2, k3⟩ := hq
    rw [cpS_cells rfl]
    clear hs
    go_enter Tryz.func20, Tryz.ntmps20
    have HH := Lib.hid ((H.alloc (.cells #[.int .u64 r0, .int .u64 r1, .int .u64 r2, .int .u64 r3, .int .u64 pc, .int .i64 dn, .bool true] 55)).alloc (.cells #[.int .u64 r0, .int .u64 r1, .int .u64 r2, .int .u64 r3, .int .u64 pc, .int .i64 dn, .bool true] 55))
    rw [World.size_alloc, hcb, hrb] at HH
    go_wp2_with fail
    refine bodyPost_at HH.out fun w9 H9 => ?_
    have hc9 : ∀ j, w9.cell? ⟨rb, j, none⟩ = (#[.int .u64 r0, .int .u64 r1, .int .u64 r2, .int .u64 r3, .int .u64 pc, .int .i64 dn, .bool true] : Array Value)[j]? := Holds.cells H9
    exact bodyPost_ret (v := .tuple #[.agg #[.int .u64 r0, .int .u64 r1, .int .u64 r2, .int .u64 r3, .int .u64 pc, .int .i64 dn, .bool true], v, .int .i64 6]) (by simp [results, Tryz.results20, go_sem, hc9]) rfl ⟨v, rfl, H9.drop.drop⟩
end
end Go.Proofs.YtjbphdjheklhbaaGreat

/-
  Layer 48: calls of a cpu that isn't there; Copy; begun, same.
-/
namespace Go.Proofs.YtjbphdjheklhbaaGreat
open Go.RowKit

section
variable {e : Env} {w : World} {R : List HP} {b : Nat} {C : CpS}
set_option maxRecDepth 100000 in
theorem cpuNilRun : Calls Tryz.prog 4 #[.pointer none, .nilIface, .int .i64 3] w (Quiet w (.tuple #[.int .i64 0, .int .i64 1])) := by
  go_enter Tryz.func4, Tryz.ntmps4
  go_wp2_with fail
  go_ret2
  exact ⟨rfl, 0, rfl⟩
set_option maxRecDepth 100000 in
theorem cpuNilStep : Calls Tryz.prog 5 #[.pointer none, .nilIface] w (Quiet w (.int .i64 1)) := by
  go_enter Tryz.func5, Tryz.ntmps5
  go_wp2_with fail
  go_ret
  exact ⟨rfl, 0, rfl⟩
set_option maxRecDepth 100000 in
theorem cpuStepNil (H : Holds e w (cpH b C :: R)) : Calls Tryz.prog 5 #[.pointer (some ⟨b, 0, none⟩), .nilIface] w (Ret e (.int .i64 1) (cpH b C :: R)) := by
  go_enter Tryz.func5, Tryz.ntmps5
  go_wp2_with fail
  go_ret
  exact ⟨rfl, H⟩
set_option maxRecDepth 100000 in
theorem cpuNilPC : Calls Tryz.prog 6 #[.pointer none] w (Quiet w (.int .u64 0)) := by
  go_enter Tryz.func6, Tryz.ntmps6
  go_wp2_with fail
  go_ret
  exact ⟨rfl, 0, rfl⟩
set_option maxRecDepth 100000 in
theorem cpuNilDone : Calls Tryz.prog 7 #[.pointer none] w (Quiet w (.int .i64 0)) := by
  go_enter Tryz.func7, Tryz.ntmps7
  go_wp2_with fail
  go_ret
  exact ⟨rfl, 0, rfl⟩
set_option maxRecDepth 100000 in
theorem cpuNilHalted : Calls Tryz.prog 8 #[.pointer none] w (Quiet w (.bool false)) := by
  go_enter Tryz.func8, Tryz.ntmps8
  go_wp2_with fail
  go_ret
  exact ⟨rfl, 0, rfl⟩
set_option maxRecDepth 100000 in
theorem cpuNilCopy : Calls Tryz.prog 9 #[.pointer none] w (Quiet w (.pointer none)) := by
  go_enter Tryz.func9, Tryz.ntmps9
  go_wp2_with fail
  go_ret
  exact ⟨rfl, 0, rfl⟩
set_option maxRecDepth 100000 in
theorem cpuNilRegs (H : Holds e w R) : Calls Tryz.prog 10 #[.pointer none] w (Ret e (.agg #[.int .u64 0, .int .u64 0, .int .u64 0, .int .u64 0]) R) := by
  have H1 := H.alloc (.cells #[.int .u64 0, .int .u64 0, .int .u64 0, .int .u64 0] 37)
  go_enter Tryz.func10, Tryz.ntmps10
  go_wp2_with fail
  refine bodyPost_at H1 fun w9 H9 => ?_
  have hc9 := H9.cells
  exact bodyPost_ret (v := .agg #[.int .u64 0, .int .u64 0, .int .u64 0, .int .u64 0]) (by simp [results, Tryz.results10, go_sem, hc9]) rfl ⟨rfl, H9.drop⟩
set_option maxRecDepth 100000 in
theorem cpuCopy (hC : C.r.length = 4) (H : Holds e w (cpH b C :: R)) : Calls Tryz.prog 9 #[.pointer (some ⟨b, 0, none⟩)] w (RetEx e (fun b' : Nat => .pointer (some ⟨b', 0, none⟩)) (fun b' => cpH b' C :: cpH b C :: R)) := by
  obtain ⟨r, pc, dn, hd⟩ := C
  obtain ⟨r0, r1, r2, r3, hr⟩ := list4 hC
  dsimp only at hr
  subst hr
  have hc := Holds.cells (c := #[Value.int .u64 r0, .int .u64 r1, .int .u64 r2, .int .u64 r3, .int .u64 pc, .int .i64 dn, .bool hd]) (T := 68) (fz := (0, 0)) H
  have H2 := H.alloc (.cells #[Value.int .u64 r0, .int .u64 r1, .int .u64 r2, .int .u64 r3, .int .u64 pc, .int .i64 dn, .bool hd] 68)
  have hlt := Holds.lt (o := .cells (CpS.cells ⟨[r0, r1, r2, r3], pc, dn, hd⟩).toArray 68 (0, 0)) H
  clear hC
  go_enter Tryz.func9, Tryz.ntmps9
  go_wp2_with fail
  go_ret
  exact ⟨_, rfl, H2⟩
end
end Go.Proofs.YtjbphdjheklhbaaGreat

/-
  Layer 48: begun, same.
-/
namespace Go.Proofs.YtjbphdjheklhbaaGreat
open Go.RowKit

theorem begR_step {ns : List Nat} {k : Nat} (hk : k < ns.length) (h4 : k < 4) : (begR (ns.take k)).set k (ns.getD k 0) = begR (ns.take (k + 1)) := by
  unfold begR
  rw [List.take_take, List.take_take, List.length_take, List.length_take]
  have e1 : min 4 k = k := by omega
  have e2 : min 4 (k + 1) = k + 1 := by omega
  have e3 : min k ns.length = k := by omega
  have e4 : min (k + 1) ns.length = k + 1 := by omega
  rw [e1, e2, e3, e4, e1, e2, List.set_append_right _ _ (by simp; omega)]
  have e5 : k - (ns.take k).length = 0 := by simp; omega
  rw [e5]
  obtain ⟨m, hm⟩ : ∃ m, 4 - k = m + 1 := ⟨3 - k, by omega⟩
  have e6 : 4 - (k + 1) = m := by omega
  rw [hm, e6, List.replicate_succ, List.set_cons_zero, List.take_add_one, List.append_assoc]
  simp [List.getD, List.getElem?_eq_getElem hk]
section
variable {e : Env} {w : World} {R : List HP} {b : Nat} {C : CpS}
set_option maxRecDepth 100000 in
set_option maxHeartbeats 1000000 in
theorem lawBegun (bs pc nb np : Nat) (a1 a2 : Option Addr) (c1 c2 : Nat) (ns : List Nat) (hl : ns.length ≤ 1000) (a3 : Option Addr) (c3 : Nat) (hr : ∀ w', Holds e w' R → Reads w' (.slice a3 ns.length c3) 1 ns.length (u64v ns)) (H : Holds e w R) :
    Calls Tryz.prog 18 #[.agg (codeCells bs pc (.slice a1 nb c1) (.slice a2 np c2) (.slice a3 ns.length c3)).toArray] w (Ret e (refCV ⟨begR ns, pc, 0, false⟩) R) := by
  obtain ⟨n, hn⟩ : ∃ n, ns.length = n := ⟨_, rfl⟩
  have HN := Lib.hid hn
  rw [hn] at hr hl ⊢
  have HR := Lib.hid hr
  have H1 := ((H.alloc (.cells (codeCells bs pc (.slice a1 nb c1) (.slice a2 np c2) (.slice a3 n c3)).toArray 27)).alloc (.cells #[.int .u64 0, .int .u64 0, .int .u64 0, .int .u64 0, .int .u64 0, .int .i64 0, .bool false] 55)).alloc (.cells #[.int .u64 0, .int .u64 0, .int .u64 0, .int .u64 0, .int .u64 pc, .int .i64 0, .bool false] 55)
  rw [World.size_alloc, World.size_alloc] at H1
  obtain ⟨xb, hxb⟩ : ∃ xb, w.heap.size = xb := ⟨_, rfl⟩
  rw [hxb] at H1
  have H2 : Holds e _ (refC (xb + 1 + 1) ⟨begR (ns.take 0), pc, 0, false⟩ :: refC (xb + 1) zeroC :: pts xb (.cells #[.int .u64 bs, .int .u64 pc, .slice a1 nb c1, .slice a2 np c2, .slice a3 n c3] 27 (0, 0)) :: R) := H1
  unfold codeCells at *
  clear hr hn H1
  go_enter Tryz.func18, Tryz.ntmps18
  go_wp2_with fail
  go_loopw [4] (fun i wr => ∃ k : Nat, k ≤ n ∧ k ≤ 4 ∧ i = .int .i64 (k : Nat) ∧ Holds e wr (refC (xb + 1 + 1) ⟨begR (ns.take k), pc, 0, false⟩ :: refC (xb + 1) zeroC :: pts xb (.cells #[.int .u64 bs, .int .u64 pc, .slice a1 nb c1, .slice a2 np c2, .slice a3 n c3] 27 (0, 0)) :: R)) (fun i _ => 4 - (Go.RowKit.intOf i).toNat)
  case atStart => exact ⟨0, by omega, by omega, rfl, H2⟩
  case round =>
    clear H2
    obtain ⟨k, hk, hk4, rfl, HX⟩ := hrel
    have q1 := HX.p2.cells
    have hlen : (begR (ns.take k)).length = 4 := begR_len _
    by_cases hlt : k < n ∧ k < 4
    · obtain ⟨h1, h2⟩ := hlt
      have d1 : decide ((k : Int) < (n : Int)) = true := decide_eq_true (by omega)
      have d2 : decide ((k : Int) < 4) = true := decide_eq_true (by omega)
      obtain ⟨g, o, rfl, rr⟩ := (HR.out _ HX.drop.drop.drop).at (by omega)
      have q2 := rr k _ (u64v_get (by rw [HN.out]; exact h1))
      obtain ⟨y, hy⟩ : ∃ y, ns.getD k 0 = y := ⟨_, rfl⟩
      rw [hy] at q2
      have kI : (k : Int) < (n : Int) := by omega
      have q3 := refC.cell HX (cp_reg hlen h2)
      have q4 : ∀ j, wr.frozen? ⟨xb + 1 + 1, j, none⟩ = false := fun j => refC.frozen HX
      have HS := Lib.hid (refC.set (v := .int .u64 (y : Int)) (C' := ⟨begR (ns.take (k + 1)), pc, 0, false⟩) HX (by
        rw [cp_setR hlen h2]
        dsimp only
        rw [← hy, begR_step (by rw [HN.out]; exact h1) h2]))
      dsimp only at q3
      generalize (begR (ns.take k)).getD k 0 = y2 at *
      clear rr hy HX
      go_wp2_with fail
      go_roundw
      case rel => exact ⟨k + 1, by omega, by omega, by go_num, HS.out⟩
      case measure => simp [Go.RowKit.intOf]; omega
    · have HE : Hid (begR (ns.take k) = begR ns) := Lib.hid (by
        by_cases h : k < n
        · have : k = 4 := by omega
          subst this
          unfold begR
          rw [List.take_take, List.length_take]
          congr 2
          omega
        · rw [List.take_of_length_le (by rw [HN.out]; omega)])
      obtain ⟨s0, s1, s2, s3, hs4⟩ := list4 hlen
      have k5 : ∀ j, wr.cell? ⟨xb + 1 + 1, j, none⟩ = (#[.int .u64 s0, .int .u64 s1, .int .u64 s2, .int .u64 s3, .int .u64 pc, .int .i64 0, .bool false] : Array Value)[j]? := by
        have := Holds.cells HX
        rw [cpS_cells hs4] at this
        exact this
      have j1 : ∀ j, wr.cell? ⟨xb + 1, j, none⟩ = (#[.int .u64 0, .int .u64 0, .int .u64 0, .int .u64 0, .int .u64 0, .int .i64 0, .bool false] : Array Value)[j]? := Holds.cells HX.swap
      have j2 : ∀ j, wr.frozen? ⟨xb + 1, j, none⟩ = false := Holds.frozen (c := zeroC.cells.toArray) (T := 55) HX.swap
      have HB := Lib.hid (refC.all (C' := ⟨[s0, s1, s2, s3], pc, 0, false⟩) rfl rfl HX.swap)
      dsimp only at HB
      have HSV : Hid (begR ns = [s0, s1, s2, s3]) := Lib.hid (by rw [← HE.out, hs4])
      have dd : (¬ (k : Int) < (n : Int)) ∨ ((k : Int) < (n : Int) ∧ k = 4) := by
        by_cases h : k < n
        · exact .inr ⟨by omega, by omega⟩
        · exact .inl (by omega)
      clear HX hlt hlen hs4
      rcases dd with d1 | ⟨d1, rfl⟩
      all_goals
        go_wp2_with fail
        refine bodyPost_at HB.out fun w9 H9 => ?_
        have hc9 : ∀ j, w9.cell? ⟨xb + 1, j, none⟩ = (#[.int .u64 s0, .int .u64 s1, .int .u64 s2, .int .u64 s3, .int .u64 pc, .int .i64 0, .bool false] : Array Value)[j]? := Holds.cells H9
        exact bodyPost_ret (v := .agg #[.int .u64 s0, .int .u64 s1, .int .u64 s2, .int .u64 s3, .int .u64 pc, .int .i64 0, .bool false]) (by simp [results, Tryz.results18, go_sem, hc9]) rfl ⟨by rw [HSV.out]; rfl, H9.drop.drop.drop⟩

set_option maxRecDepth 100000 in
set_option maxHeartbeats 1000000 in
theorem lawSame (hC : C.r.length = 4) (H : Holds e w (cpH b C :: R)) : Calls Tryz.prog 19 #[.pointer (some ⟨b, 0, none⟩), refCV C] w (Ret e (.bool true) (cpH b C :: R)) := by
  obtain ⟨r, pc, dn, hd⟩ := C
  obtain ⟨r0, r1, r2, r3, hr⟩ := list4 hC
  dsimp only at hr
  subst hr
  have H1 := H.alloc (.cells (CpS.cells ⟨[r0, r1, r2, r3], pc, dn, hd⟩).toArray 55)
  obtain ⟨xb, hxb⟩ : ∃ xb, w.heap.size = xb := ⟨_, rfl⟩
  rw [hxb] at H1
  have H1 : Holds e (w.alloc (.cells #[.int .u64 r0, .int .u64 r1, .int .u64 r2, .int .u64 r3, .int .u64 pc, .int .i64 dn, .bool hd] 55)) (refC xb ⟨[r0, r1, r2, r3], pc, dn, hd⟩ :: cpH b ⟨[r0, r1, r2, r3], pc, dn, hd⟩ :: R) := H1
  have hre : ∀ w, (binOp .eql 37 (.agg #[.int .u64 r0, .int .u64 r1, .int .u64 r2, .int .u64 r3]) (.agg #[.int .u64 r0, .int .u64 r1, .int .u64 r2, .int .u64 r3])).run Tryz.prog w = .ok (.bool true) w := fun w => by
    have := eqRegs [r0, r1, r2, r3] [r0, r1, r2, r3] rfl rfl w
    rw [decide_eq_true rfl] at this
    exact this
  have hri : ∀ w, (Op.equalIn 10000 37 (.agg #[.int .u64 r0, .int .u64 r1, .int .u64 r2, .int .u64 r3]) (.agg #[.int .u64 r0, .int .u64 r1, .int .u64 r2, .int .u64 r3])).run Tryz.prog w = .ok true w := fun w => by
    have h := hre w
    rw [run_eql_struct] at h
    cases hh : (Op.equalIn 10000 37 (.agg #[.int .u64 r0, .int .u64 r1, .int .u64 r2, .int .u64 r3]) (.agg #[.int .u64 r0, .int .u64 r1, .int .u64 r2, .int .u64 r3])).run Tryz.prog w with
    | ok x w1 =>
      rw [hh, Result.andThen_ok] at h
      injection h with h1 h2
      injection h1 with h3
      rw [h3, h2]
    | halt x w1 => rw [hh] at h; cases h
  have hgd : ∀ w x y, (eqGuard .eql 37 x y (.agg #[.int .u64 r0, .int .u64 r1, .int .u64 r2, .int .u64 r3]) (.agg #[.int .u64 r0, .int .u64 r1, .int .u64 r2, .int .u64 r3])).run Tryz.prog w = .ok () w := fun w x y => run_eqGuard_agg w .eql _ x y _ _ (by kernel_rfl)
  have R1 : Hid (∀ w', Holds e w' (refC xb ⟨[r0, r1, r2, r3], pc, dn, hd⟩ :: cpH b ⟨[r0, r1, r2, r3], pc, dn, hd⟩ :: R) → Calls Tryz.prog 10 #[.pointer (some ⟨b, 0, none⟩)] w' (Ret e (.agg #[.int .u64 r0, .int .u64 r1, .int .u64 r2, .int .u64 r3]) (refC xb ⟨[r0, r1, r2, r3], pc, dn, hd⟩ :: cpH b ⟨[r0, r1, r2, r3], pc, dn, hd⟩ :: R))) := Lib.hid fun w' h => retC (cpuRegs hC h.swap) fun _ g => g.swap
  have R2 : Hid (∀ w', Holds e w' (refC xb ⟨[r0, r1, r2, r3], pc, dn, hd⟩ :: cpH b ⟨[r0, r1, r2, r3], pc, dn, hd⟩ :: R) → Calls Tryz.prog 6 #[.pointer (some ⟨b, 0, none⟩)] w' (Ret e (.int .u64 pc) (refC xb ⟨[r0, r1, r2, r3], pc, dn, hd⟩ :: cpH b ⟨[r0, r1, r2, r3], pc, dn, hd⟩ :: R))) := Lib.hid fun w' h => retC (cpuPC hC h.swap) fun _ g => g.swap
  have R3 : Hid (∀ w', Holds e w' (refC xb ⟨[r0, r1, r2, r3], pc, dn, hd⟩ :: cpH b ⟨[r0, r1, r2, r3], pc, dn, hd⟩ :: R) → Calls Tryz.prog 7 #[.pointer (some ⟨b, 0, none⟩)] w' (Ret e (.int .i64 dn) (refC xb ⟨[r0, r1, r2, r3], pc, dn, hd⟩ :: cpH b ⟨[r0, r1, r2, r3], pc, dn, hd⟩ :: R))) := Lib.hid fun w' h => retC (cpuDone hC h.swap) fun _ g => g.swap
  have R4 : Hid (∀ w', Holds e w' (refC xb ⟨[r0, r1, r2, r3], pc, dn, hd⟩ :: cpH b ⟨[r0, r1, r2, r3], pc, dn, hd⟩ :: R) → Calls Tryz.prog 8 #[.pointer (some ⟨b, 0, none⟩)] w' (Ret e (.bool hd) (refC xb ⟨[r0, r1, r2, r3], pc, dn, hd⟩ :: cpH b ⟨[r0, r1, r2, r3], pc, dn, hd⟩ :: R))) := Lib.hid fun w' h => retC (cpuHalted hC h.swap) fun _ g => g.swap
  unfold refCV
  rw [cpS_cells rfl]
  dsimp only
  clear hC H
  go_enter Tryz.func19, Tryz.ntmps19
  go_wp2_with fail
  obtain ⟨I, Wf, hI, hW, hWs⟩ := worlds_of H1
  have q1 : ∀ i j, (Wf i).cell? ⟨xb, j, none⟩ = (#[.int .u64 r0, .int .u64 r1, .int .u64 r2, .int .u64 r3, .int .u64 pc, .int .i64 dn, .bool hd] : Array Value)[j]? := fun i => Holds.cells (hW i)
  refine wp_region_holds hWs H1 (by kernel_rfl) (by kernel_rfl) ?_
  try simp only [List.append_eq, List.cons_append, List.nil_append]
  (repeat (go_big_quiet_step ((first | (go_at_call 10; exact quietH (R1.out _ (hW _)) hWs) | (go_at_call 6; exact quietH (R2.out _ (hW _)) hWs) | (go_at_call 7; exact quietH (R3.out _ (hW _)) hWs) | (go_at_call 8; exact quietH (R4.out _ (hW _)) hWs))))); refine wpQuiet_nil ?_; intro _ hw'; obtain ⟨nq, hw''⟩ := hw'; subst hw''
  have H2 := Lib.hid (hW nq).drop
  clear q1 hW hWs H1 hre hri hgd
  go_wp2_with fail
  go_ret
  exact ⟨rfl, H2.out⟩
end
end Go.Proofs.YtjbphdjheklhbaaGreat
