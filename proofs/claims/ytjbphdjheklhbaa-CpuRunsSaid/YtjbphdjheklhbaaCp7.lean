/-
  Package cpu: Step.
-/
import Derived.Test.YtjbphdjheklhbaaCp6
namespace Go.Proofs.Ytjbphdjheklhbaa
open Go.RowKit

theorem list4 {l : List Nat} (h : l.length = 4) : ∃ a b c d, l = [a, b, c, d] := by
  match l, h with
  | [a, b, c, d], _ => exact ⟨a, b, c, d, rfl⟩
theorem sgn32_ok (n : Nat) (h : n < 4294967296) : -2147483648 ≤ sgn32 n ∧ sgn32 n ≤ 2147483647 := sgn32_bd n h
theorem insOf_ok {l : List UInt8} (h : insOk l = true) : InsOk (insOf l) := by
  unfold insOk mayI at h
  simp only [Bool.and_eq_true, decide_eq_true_eq] at h
  obtain ⟨⟨⟨⟨⟨⟨h1, h2⟩, h3⟩, h4⟩, h5⟩, h6⟩, _⟩ := h
  refine ⟨⟨h1, h2⟩, ⟨h3, h4⟩, ⟨h5, h6⟩, ?_⟩
  have h7 := unle_lt ((l.drop 4).take 4)
  have h8 : ((l.drop 4).take 4).length ≤ 4 := by rw [List.length_take]; omega
  have h9 : 256 ^ ((l.drop 4).take 4).length ≤ 256 ^ 4 := Nat.pow_le_pow_right (by omega) h8
  exact sgn32_bd _ (Nat.lt_of_lt_of_le h7 (Nat.le_trans h9 (by decide)))
theorem insF_call (k : Nat) (h : k < 8) (args : Array Value) (w : World) : (callFunc (insF k) args).run Try.prog w = .ok (.enter (insF k) args) w := by
  have h0 : (callFunc 69 args).run Try.prog w = .ok (.enter 69 args) w := by kernel_rfl
  have h1 : (callFunc 70 args).run Try.prog w = .ok (.enter 70 args) w := by kernel_rfl
  have h2 : (callFunc 71 args).run Try.prog w = .ok (.enter 71 args) w := by kernel_rfl
  have h3 : (callFunc 72 args).run Try.prog w = .ok (.enter 72 args) w := by kernel_rfl
  have h4 : (callFunc 73 args).run Try.prog w = .ok (.enter 73 args) w := by kernel_rfl
  have h5 : (callFunc 74 args).run Try.prog w = .ok (.enter 74 args) w := by kernel_rfl
  have h6 : (callFunc 75 args).run Try.prog w = .ok (.enter 75 args) w := by kernel_rfl
  have h7 : (callFunc 76 args).run Try.prog w = .ok (.enter 76 args) w := by kernel_rfl
  match k, h with
  | 0, _ => exact h0
  | 1, _ => exact h1
  | 2, _ => exact h2
  | 3, _ => exact h3
  | 4, _ => exact h4
  | 5, _ => exact h5
  | 6, _ => exact h6
  | 7, _ => exact h7
section
variable {e : Env} {w : World} {R : List HP} {m b : Nat} {M : List Pg} {C : CpS}
set_option maxRecDepth 100000 in
set_option maxHeartbeats 2000000 in
theorem cpuStep (hC : CpOk C) (hdn : C.done < 4611686018427387904) (H : Holds e w (cpH b C :: modH m M :: R)) :
    Calls Try.prog 38 #[.pointer (some ⟨b, 0, none⟩), coreV m] w (Ret e (.int .i64 (stepS M C).1) (cpH b (stepS M C).2.1 :: modH m (stepS M C).2.2 :: R)) := by
  have hq : ∀ w, (binOp .eql 92 (coreV m) .nilIface).run Try.prog w = .ok (.bool false) w := fun w => by kernel_rfl
  have hme := fun w => core_fetch (m := m) w
  have hnl := fun w => nil_fetch (m := m) w
  have hpc64 := hC.pc
  have HOK := Lib.hid hC
  obtain ⟨S, hS⟩ : ∃ S, stepS M C = S := ⟨_, rfl⟩
  have HS := Lib.hid hS
  rw [hS]
  obtain ⟨r, pc, dn, hd⟩ := C
  obtain ⟨r0, r1, r2, r3, hr⟩ := list4 hC.len
  dsimp only at hr hdn hpc64
  subst hr
  have HK : Hid (∀ w' X, Holds e w' (cpH b ⟨[r0, r1, r2, r3], pc, dn, hd⟩ :: X) → (∀ j, w'.cell? ⟨b, j, none⟩ = #[Value.int .u64 r0, .int .u64 r1, .int .u64 r2, .int .u64 r3, .int .u64 pc, .int .i64 dn, .bool hd][j]?) ∧ (∀ j, w'.frozen? ⟨b, j, none⟩ = false) ∧ b < w'.heap.size) := Lib.hid fun w' X h' => ⟨fun j => Holds.cells (c := #[Value.int .u64 r0, .int .u64 r1, .int .u64 r2, .int .u64 r3, .int .u64 pc, .int .i64 dn, .bool hd]) h' j, fun j => cpH.frozen h', Holds.lt (o := .cells (CpS.cells ⟨[r0, r1, r2, r3], pc, dn, hd⟩).toArray 130 (0, 0)) h'⟩
  obtain ⟨k1, k2, k3⟩ := HK.out _ _ H
  clear hC hS
  cases hd
  · have FE : Hid (∀ w' X, Holds e w' (cpH b ⟨[r0, r1, r2, r3], pc, dn, false⟩ :: modH m M :: X) → Calls Try.prog 133 #[.agg #[memV m, .pointer (some ⟨m, 0, none⟩)], .int .u64 pc, .int .i64 8] w'
        (RetEx e (fun d : Value => .tuple #[d, .int .i64 (chk M pc 8 4)]) (fun d => cpH b ⟨[r0, r1, r2, r3], pc, dn, false⟩ :: bts d (rdE M pc 8 4) :: modH m M :: X))) := Lib.hid fun w' X h' =>
      (cpuFetch (m := m) (M := M) hpc64 8 (by omega) (by omega) h'.swap).mono fun en w'' ⟨d, h1, h2⟩ => ⟨d, h1, h2.re 3 [2, 0, 1]⟩
    obtain ⟨E, hE⟩ : ∃ E, chk M pc 8 4 = E := ⟨_, rfl⟩
    rw [hE] at FE
    have HE := Lib.hid hE
    have HD := H.drew
    unfold coreV memV at *
    clear hE
    go_enter Try.func38, Try.ntmps38
    go_wp2_with fail
    go_region_held3 (fun w' => (∀ j, w'.cell? ⟨b, j, none⟩ = #[Value.int .u64 r0, .int .u64 r1, .int .u64 r2, .int .u64 r3, .int .u64 pc, .int .i64 dn, .bool false][j]?) ∧ (∀ j, w'.frozen? ⟨b, j, none⟩ = false) ∧ b < w'.heap.size)
      (first | exact HK.out _ _ (by assumption))
      (first | (go_at_call 133; refine (FE.out _ _ (by assumption)).mono ?_; rintro e w4 ⟨d, rfl, HN⟩))
    all_goals
      clear H HD k1 k2 k3 FE hme hnl
      rename_i w4
      by_cases hE0 : E = 0
      · have d0 : ((E : Int) != 0) = false := by simp [hE0]
        obtain ⟨l, hl⟩ : ∃ l, rdb M pc 8 = l := ⟨_, rfl⟩
        have hll : l.length = 8 := by rw [← hl]; exact rdb_length _ _ _
        rw [rdE_zero (HE.out.trans hE0), show ((8 : Int).toNat) = 8 from rfl, hl] at HN
        have HL := Lib.hid hl
        have CO : Hid (∀ w' X, Holds e w' (cpH b ⟨[r0, r1, r2, r3], pc, dn, false⟩ :: bts d l :: X) → Calls Try.prog 55 #[d] w' (Ret e (.tuple #[(insOf l).val, .bool (insOk l)]) (cpH b ⟨[r0, r1, r2, r3], pc, dn, false⟩ :: bts d l :: X))) := Lib.hid fun w' X h' => cpuOne l hll d (fun w'' g => bts.reads g.swap) h'
        obtain ⟨io, hio⟩ : ∃ io, insOk l = io := ⟨_, rfl⟩
        have HIO := Lib.hid hio
        rw [hio] at CO
        obtain ⟨x, hxx⟩ : ∃ x, insOf l = x := ⟨_, rfl⟩
        have HX := Lib.hid hxx
        rw [hxx] at CO
        obtain ⟨op, rr, ss, imm⟩ := x
        unfold InsS.val at CO
        dsimp only at CO
        clear hl hll hio hxx
        go_wp2_with fail
        refine (CO.out _ _ HN).mono ?_
        rintro en w5 ⟨rfl, H5⟩
        obtain ⟨k1, k2, k3⟩ := HK.out _ _ H5
        clear CO HN
        cases io
        · have HF : Hid (S = (3, ⟨[r0, r1, r2, r3], pc, dn, false⟩, M)) := Lib.hid (by
            rw [← HS.out]; unfold stepS; dsimp only
            rw [if_neg (by decide), if_neg (by rw [HE.out, hE0]; decide), HL.out, HIO.out, if_pos rfl])
          have HH : Hid (Holds e (w5.alloc (.cells #[.int .i64 op, .int .i64 rr, .int .i64 ss, .int .i32 imm] 71)) (cpH b ⟨[r0, r1, r2, r3], pc, dn, false⟩ :: modH m M :: R)) := Lib.hid ((H5.alloc _).re 4 [1, 3])
          clear H5 k1 k2 k3
          go_wp2_with fail
          go_ret
          exact ⟨by rw [HF.out]; rfl, by rw [HF.out]; exact HH.out⟩
        · have hx := insOf_ok HIO.out
          rw [HX.out] at hx
          have HXO := Lib.hid hx
          obtain ⟨⟨o1, o2⟩, _, _, _⟩ := hx
          dsimp only at o1 o2
          obtain ⟨op, rfl⟩ : ∃ q : Nat, op = q := ⟨op.toNat, by omega⟩
          obtain ⟨pc8, hpc8⟩ : ∃ q, add64 pc 8 = q := ⟨_, rfl⟩
          have hw1 : IntKind.u64.wrap ((pc : Int) + 8) = (pc8 : Int) := by rw [← hpc8]; exact add64_wrap pc 8
          have hx1 : pc8 < 18446744073709551616 := by rw [← hpc8]; exact add64_lt pc 8
          have HP8 := Lib.hid hpc8
          clear hpc8
          go_wp2_with fail
          obtain ⟨xb, hxb⟩ : ∃ xb, w5.heap.size = xb := ⟨_, rfl⟩
          have HA : Holds e (((w5.setCell ⟨b, 4, none⟩ (.int .u64 pc8)).alloc (.cells #[.int .i64 op, .int .i64 rr, .int .i64 ss, .int .i32 imm] 71)).alloc (.cells #[.int .u64 r0, .int .u64 r1, .int .u64 r2, .int .u64 r3, .int .u64 pc, .int .i64 dn, .bool false] 130))
              (pts xb (.cells #[.int .i64 op, .int .i64 rr, .int .i64 ss, .int .i32 imm] 71 (0, 0)) :: pts (xb + 1) (.cells #[.int .u64 r0, .int .u64 r1, .int .u64 r2, .int .u64 r3, .int .u64 pc, .int .i64 dn, .bool false] 130 (0, 0)) :: cpH b ⟨[r0, r1, r2, r3], pc8, dn, false⟩ :: modH m M :: R) := by
            have h1 : Holds e (w5.setCell ⟨b, 4, none⟩ (.int .u64 pc8)) (cpH b ⟨[r0, r1, r2, r3], pc8, dn, false⟩ :: bts d l :: modH m M :: R) := cpH.set H5 rfl
            have h2 := (h1.alloc (.cells #[.int .i64 op, .int .i64 rr, .int .i64 ss, .int .i32 imm] 71)).alloc (.cells #[.int .u64 r0, .int .u64 r1, .int .u64 r2, .int .u64 r3, .int .u64 pc, .int .i64 dn, .bool false] 130)
            rw [World.size_alloc] at h2
            have h3 : (w5.setCell ⟨b, 4, none⟩ (.int .u64 pc8)).heap.size = xb := by rw [← hxb]; simp [World.setCell]
            rw [h3] at h2
            exact h2.re 5 [1, 0, 2, 4]
          have HXc : Hid (∀ w' X, Holds e w' (pts xb (.cells #[.int .i64 op, .int .i64 rr, .int .i64 ss, .int .i32 imm] 71 (0, 0)) :: X) → ∀ j, w'.cell? ⟨xb, j, none⟩ = #[Value.int .i64 op, .int .i64 rr, .int .i64 ss, .int .i32 imm][j]?) := Lib.hid fun w' X h' => h'.cells
          have hcf := insF_call op (by omega)
          have CDo := Lib.hid fun w' => cpuDoing (w := w') op (by omega)
          obtain ⟨Y, hY⟩ : ∃ Y, execC ⟨op, rr, ss, imm⟩ M ⟨[r0, r1, r2, r3], pc8, dn, false⟩ = Y := ⟨_, rfl⟩
          have hC1 : CpOk ⟨[r0, r1, r2, r3], pc8, dn, false⟩ := HOK.out.setPc hx1 _ _
          have HYO := Lib.hid (execC_ok (x := ⟨op, rr, ss, imm⟩) (M := M) hC1)
          have CX : Hid (∀ w' X, Holds e w' (pts xb (.cells #[.int .i64 op, .int .i64 rr, .int .i64 ss, .int .i32 imm] 71 (0, 0)) :: pts (xb + 1) (.cells #[.int .u64 r0, .int .u64 r1, .int .u64 r2, .int .u64 r3, .int .u64 pc, .int .i64 dn, .bool false] 130 (0, 0)) :: cpH b ⟨[r0, r1, r2, r3], pc8, dn, false⟩ :: modH m M :: X) →
              Calls Try.prog (insF op) #[.pointer (some ⟨b, 0, none⟩), coreV m, .agg #[.int .i64 op, .int .i64 rr, .int .i64 ss, .int .i32 imm]] w' (Ret e (.int .i64 Y.1) (pts xb (.cells #[.int .i64 op, .int .i64 rr, .int .i64 ss, .int .i32 imm] 71 (0, 0)) :: pts (xb + 1) (.cells #[.int .u64 r0, .int .u64 r1, .int .u64 r2, .int .u64 r3, .int .u64 pc, .int .i64 dn, .bool false] 130 (0, 0)) :: cpH b Y.2.1 :: modH m Y.2.2 :: X))) := Lib.hid fun w' X h' => by
            have h1 := cpuExec ⟨op, rr, ss, imm⟩ HXO.out hC1 (h'.re 4 [2, 3, 0, 1])
            rw [hY] at h1
            exact retC h1 fun w'' g => g.re 4 [2, 3, 0, 1]
          have HYM : Hid (Y.1 ≠ 0 → Y.2.2 = M) := Lib.hid (by rw [← hY]; exact execC_mem)
          rw [hY] at HYO
          have HSY : Hid (S = if Y.1 ≠ 0 then (Y.1, ⟨[r0, r1, r2, r3], pc, dn, false⟩, M) else (0, ⟨Y.2.1.r, Y.2.1.pc, dn + 1, Y.2.1.halted⟩, Y.2.2)) := Lib.hid (by
            rw [← HS.out]; unfold stepS; dsimp only
            rw [if_neg (by decide), if_neg (by rw [HE.out, hE0]; decide), HL.out, HIO.out, if_neg (by decide), HX.out, HP8.out, hY])
          obtain ⟨E2, C2, M2⟩ := Y
          dsimp only at CX HYO HYM HSY
          have hne2 : b ≠ xb := by omega
          have hbx : b < xb := by omega
          unfold coreV memV at CX
          unfold insFV at CDo
          rw [hxb]
          clear hxb H5 k1 k2 k3 hY hC1 hw1 hx1 HP8
          refine code_at HA fun w6 H6 => ?_
          have HD := H6.drew
          have kx := HXc.out _ _ H6
          clear HA
          go_region_held3 (fun w' => ∀ j, w'.cell? ⟨xb, j, none⟩ = #[Value.int .i64 op, .int .i64 rr, .int .i64 ss, .int .i32 imm][j]?)
            (first | exact HXc.out _ _ (by assumption))
            (first
              | (go_at_call 57; refine (retQ (CDo.out _) (by assumption)).mono ?_; rintro e w7 ⟨rfl, HN⟩)
              | (refine (CX.out _ _ (by assumption)).mono ?_; rintro e w7 ⟨rfl, HN⟩))
          all_goals
            clear kx HD H6 CDo CX hcf
            obtain ⟨hC2, hdn2⟩ := HYO.out
            by_cases hE2 : E2 = 0
            · subst hE2
              have d2 : (((0 : Nat) : Int) != 0) = false := rfl
              have hl2 := hC2.len
              have HF : Hid (S = (0, ⟨C2.r, C2.pc, dn + 1, C2.halted⟩, M2)) := Lib.hid (by rw [HSY.out, if_neg (by decide)])
              have c5 := cpH.cell HN.p2 (cp_done hl2)
              have f5 := cpH.frozen (k := 5) HN.p2
              rw [hdn2] at c5
              have HZ : Hid (Holds e (w7.setCell ⟨b, 5, none⟩ (.int .i64 ((dn + 1 : Nat) : Int))) (cpH b ⟨C2.r, C2.pc, dn + 1, C2.halted⟩ :: modH m M2 :: R)) := Lib.hid ((cpH.set HN.p2 (cp_setDone hl2 (dn + 1))).re 4 [0, 3])
              obtain ⟨d1, hd1⟩ : ∃ d1, dn + 1 = d1 := ⟨_, rfl⟩
              rw [hd1] at HZ HF
              have i1 : (dn : Int) + 1 = (d1 : Int) := by omega
              have d1b : d1 ≤ 4611686018427387904 := by omega
              clear HN hd1
              go_wp2_with fail
              go_ret
              exact ⟨by rw [HF.out]; rfl, by rw [HF.out]; exact HZ.out⟩
            · have d2 : ((E2 : Int) != 0) = true := by simp; omega
              have hM2 := HYM.out hE2
              have HF : Hid (S = (E2, ⟨[r0, r1, r2, r3], pc, dn, false⟩, M)) := Lib.hid (by rw [HSY.out, if_pos hE2])
              subst hM2
              obtain ⟨r', pc', dn', hd'⟩ := C2
              obtain ⟨s0, s1, s2, s3, hs⟩ := list4 hC2.len
              dsimp only at hs
              subst hs
              have cw : ∀ j, w7.cell? ⟨xb + 1, j, none⟩ = #[Value.int .u64 r0, .int .u64 r1, .int .u64 r2, .int .u64 r3, .int .u64 pc, .int .i64 dn, .bool false][j]? := HN.swap.cells
              have cb : ∀ j, w7.cell? ⟨b, j, none⟩ = #[Value.int .u64 s0, .int .u64 s1, .int .u64 s2, .int .u64 s3, .int .u64 pc', .int .i64 dn', .bool hd'][j]? := fun j => Holds.cells (c := #[Value.int .u64 s0, .int .u64 s1, .int .u64 s2, .int .u64 s3, .int .u64 pc', .int .i64 dn', .bool hd']) HN.p2 j
              have fb : ∀ j, w7.frozen? ⟨b, j, none⟩ = false := fun j => cpH.frozen HN.p2
              have hnb : b ≠ xb + 1 := by omega
              have z0 := cpH.set (k := 0) (v := .int .u64 r0) (C' := ⟨[r0, s1, s2, s3], pc', dn', hd'⟩) HN.p2 rfl
              have z1 := cpH.set (k := 1) (v := .int .u64 r1) (C' := ⟨[r0, r1, s2, s3], pc', dn', hd'⟩) z0 rfl
              have z2 := cpH.set (k := 2) (v := .int .u64 r2) (C' := ⟨[r0, r1, r2, s3], pc', dn', hd'⟩) z1 rfl
              have z3 := cpH.set (k := 3) (v := .int .u64 r3) (C' := ⟨[r0, r1, r2, r3], pc', dn', hd'⟩) z2 rfl
              have z4 := cpH.set (k := 4) (v := .int .u64 pc) (C' := ⟨[r0, r1, r2, r3], pc, dn', hd'⟩) z3 rfl
              have z5 := cpH.set (k := 5) (v := .int .i64 dn) (C' := ⟨[r0, r1, r2, r3], pc, dn, hd'⟩) z4 rfl
              have z6 := cpH.set (k := 6) (v := .bool false) (C' := ⟨[r0, r1, r2, r3], pc, dn, false⟩) z5 rfl
              have HZ := Lib.hid (z6.re 4 [0, 3])
              clear HN z0 z1 z2 z3 z4 z5 z6
              go_wp2_with fail
              go_ret
              exact ⟨by rw [HF.out]; rfl, by rw [HF.out]; exact HZ.out⟩
      · have d0 : ((E : Int) != 0) = true := by simp; omega
        have HF : Hid (S = (E, ⟨[r0, r1, r2, r3], pc, dn, false⟩, M)) := Lib.hid (by
          rw [← HS.out]; unfold stepS; dsimp only
          rw [if_neg (by decide), HE.out, if_pos hE0])
        have HH := Lib.hid (HN.re 3 [0, 2])
        clear HN
        go_wp2_with fail
        go_ret
        exact ⟨by rw [HF.out]; rfl, by rw [HF.out]; exact HH.out⟩
  · have HF : Hid (S = (6, ⟨[r0, r1, r2, r3], pc, dn, true⟩, M)) := Lib.hid (by
      rw [← HS.out]; unfold stepS; rw [if_pos rfl])
    have HH := Lib.hid H
    unfold coreV memV at *
    go_enter Try.func38, Try.ntmps38
    go_wp2_with fail
    go_ret
    exact ⟨by rw [HF.out]; rfl, by rw [HF.out]; exact HH.out⟩
end
end Go.Proofs.Ytjbphdjheklhbaa
