/-
  One operation that makes a value: it is made.
-/
import Derived.Test.YtgielkefgliiiaaEngJ
namespace Go.Eng

section
variable {P : Program} {F : Facts}

theorem run_v {s : Sem Value} {w w' : World} {v : Value} (h : s.run P w = .ok v w') : (do pure (Next.value (← s)) : Sem Next).run P w = .ok (.value v) w' := by
  simp only [Sem.run_bind, h, Result.andThen_ok, Sem.run_pure]

theorem isC_or (x y : Operand) : (isC x || isC y) = true → (x matches .const _) = true ∨ (y matches .const _) = true := by
  intro hh
  rcases Bool.or_eq_true _ _ ▸ hh with h1 | h1
  · left; cases x <;> simp_all [isC]
  · right; cases y <;> simp_all [isC]

theorem R_ptr_inv {m : Emb} {ρ : Env} {id : Nat} {o : Off} {v : Value} (h : (DV.ptr id o).R m ρ v) : ∃ b, m.ι id = some b ∧ v = .pointer (some ⟨b, o.den ρ, none⟩) := by
  simpa only [DV.R] using h

theorem maxFold {m : Emb} {ρ : Env} (hF : F.ok ρ) (k : IntKind) (a b : E) : (DV.int k (rwE F (iteE F (boolE F (.bi .lt a b)) b a))).R m ρ (.int k (if (b.ev ρ).int > (a.ev ρ).int then (b.ev ρ).int else (a.ev ρ).int)) := by
  simp only [DV.R]
  rw [rwE_ev hF, iteE_ev hF, boolE_bool hF]
  simp only [E.ev, B2.ev, Sc.bool_B]
  by_cases h : (a.ev ρ).int < (b.ev ρ).int
  · simp [h]
  · simp [h]

theorem valA_sound {m : Emb} {ρ : Env} (hF : F.ok ρ) {h : T Blk} {t : T DV} {a : Act} {w : World} (hH : HeapR m ρ h w) (ht : TmpR m ρ t a) {o : Oper} {d : DV} (hd : valA P F h t o.op = some d) :
    ∃ v, (execOp a.eval o).run P w = .ok (.value v) w ∧ d.R m ρ v := by
  obtain ⟨dst, op, type, pos, after, guard⟩ := o
  simp only at hd
  cases op <;> simp only [valA, reduceCtorEq] at hd
  case move x => exact ⟨_, rfl, opd_R ht hd⟩
  case assign x => exact ⟨_, rfl, opd_R ht hd⟩
  case pick c x y =>
    split at hd
    · rename_i e hc
      have hcR := opd_R ht hc
      simp only [DV.R] at hcR
      have hrun : (execOp a.eval ⟨dst, .pick c x y, type, pos, after, guard⟩).run P w = .ok (.value (if (e.ev ρ).bool then a.eval x else a.eval y)) w := by
        simp [execOp, hcR, asBool]
      split at hd
      · rename_i he
        have := E.dec_sound hF he
        exact ⟨_, hrun, by simp only [this, if_true]; exact opd_R ht hd⟩
      · rename_i he
        have := E.dec_sound hF he
        exact ⟨_, hrun, by simp only [this, Bool.false_eq_true, if_false]; exact opd_R ht hd⟩
      · split at hd
        · rename_i dx dy hx hy
          exact ⟨_, hrun, iteDV_R hF hd (fun _ => opd_R ht hx) (fun _ => opd_R ht hy)⟩
        · cases hd
    · cases hd
  case build ty parts =>
    split at hd
    · rename_i ds hds
      obtain ⟨hl, hg⟩ := list_mapM_some hds
      have := buildD_sound (m := m) (ρ := ρ) hd (vparts := parts.map fun (i, x) => (i, a.eval x)) (by simpa using hl.symm) (fun k i d hk => by
        obtain ⟨p, hp, hq⟩ := hg k (i, d) hk
        simp only [Option.map_eq_some_iff, Prod.mk.injEq] at hq
        obtain ⟨d', hd', rfl, rfl⟩ := hq
        refine ⟨a.eval p.2, ?_, opd_R ht hd'⟩
        have hp' : parts[k]? = some p := by simpa using hp
        simp [hp']) w
      obtain ⟨v, hv, hr⟩ := this
      exact ⟨v, run_v hv, hr⟩
    · cases hd
  case load ty x =>
    split at hd
    · rename_i dp hp
      obtain ⟨v, hv, hr⟩ := loadD_sound hF hH hd (opd_R ht hp)
      exact ⟨v, run_v hv, hr⟩
    · cases hd
  case nilCheck x =>
    split at hd
    · rename_i id of hx
      cases hd
      have hR := opd_R ht hx
      obtain ⟨b, hb, hv⟩ := R_ptr_inv hR
      exact ⟨a.eval x, by simp [execOp, hv], hR⟩
    · rename_i g of hx
      cases hd
      have hR := opd_R ht hx
      have hv := hR
      simp only [DV.R] at hv
      exact ⟨a.eval x, by simp [execOp, hv], hR⟩
    · rename_i f x1 x2 hx
      cases hd
      have hR := opd_R ht hx
      have hv := hR
      simp only [DV.R] at hv
      obtain ⟨y1, y2, hv, _⟩ := hv
      exact ⟨a.eval x, by simp [execOp, hv], hR⟩
    · cases hd
  case binOp op ty x y yt =>
    split at hd
    · rename_i dx dy hx hy
      obtain ⟨v, hv, hr⟩ := binD_sound (P := P) hF hd (isC_or x y) (opd_R ht hx) (opd_R ht hy) w
      exact ⟨v, run_v hv, hr⟩
    · cases hd
  case unOp op ty x =>
    split at hd
    · rename_i dx hx
      obtain ⟨v, hv, hr⟩ := unD_sound (P := P) hF hd (opd_R ht hx) w
      exact ⟨v, run_v hv, hr⟩
    · cases hd
  case convert src dst' x =>
    split at hd
    · rename_i ds k k' e hs hu hx
      cases hd
      have hR := opd_R ht hx
      simp only [DV.R] at hR
      refine ⟨.int k (k.wrap (e.ev ρ).int), run_v ?_, ?_⟩
      · rw [hR]
        simp [convert, run_underlying hs, run_underlying hu, Conv.intToInt]
      · simp only [DV.R]; rw [rwE_ev hF, wrapI_int hF]
    · rename_i e hs hu hx
      cases hd
      have hR := opd_R ht hx
      simp only [DV.R] at hR
      refine ⟨.string (e.ev ρ).str, run_v ?_, rfl⟩
      rw [hR]
      simp [convert, run_underlying hs, run_underlying hu]
    · cases hd
  case fieldAddr s x f =>
    split at hd
    · rename_i fs id of hs hx
      split at hd
      · rename_i fd hfd
        split at hd
        · rename_i i hi
          split at hd
          · cases hd
          · rename_i hsz
            cases hd
            obtain ⟨b, hb, hv⟩ := R_ptr_inv (opd_R ht hx)
            refine ⟨.pointer (some ⟨b, of.den ρ + fd.offset, none⟩), run_v ?_, ?_⟩
            · rw [hv]
              simp [Instr.fieldAt, run_underlying hs, hfd, Instr.sureAddr, fieldPlace, sizeOf, typeInfo, hi, hsz, add_none]
            · simp only [DV.R]; exact ⟨b, hb, by rw [Off.den_add]⟩
        · cases hd
      · cases hd
    · cases hd
  case field s x f =>
    split at hd
    · rename_i fs l hs hx
      split at hd
      · rename_i fd hfd
        have hR := opd_R ht hx
        simp only [DV.R] at hR
        obtain ⟨vs, hv, hl⟩ := hR
        obtain ⟨v, hv', hr⟩ := partD_sound (P := P) (w := w) hd hl
        refine ⟨v, run_v ?_, hr⟩
        rw [hv]
        simp [Instr.field, run_underlying hs, hfd, asAgg, hv']
      · cases hd
    · cases hd
  case indexAddr ty x ix =>
    split at hd
    · rename_i len el id of k e hu hx hix
      split at hd
      · rename_i i hi
        split at hd
        · rename_i hok
          cases hd
          obtain ⟨h0, h1⟩ := idxOk_spec hF hok
          simp only [E.ev, Sc.int_I] at h1
          obtain ⟨b, hb, hv⟩ := R_ptr_inv (opd_R ht hx)
          have hRi := opd_R ht hix
          simp only [DV.R] at hRi
          refine ⟨.pointer (some ⟨b, of.den ρ + (e.ev ρ).int.toNat * i.size, none⟩), run_v ?_, ?_⟩
          · rw [hv, hRi]
            simp [Instr.indexAt, run_underlying hu, asIntOf, Instr.sureAddr, sizeOf, typeInfo, hi, add_none, h0, h1]
          · simp only [DV.R]; exact ⟨b, hb, by rw [Off.den_addE]⟩
        · cases hd
      · cases hd
    · rename_i el id of len cap k e hu hx hix
      split at hd
      · rename_i i hi
        split at hd
        · rename_i hok
          cases hd
          obtain ⟨h0, h1⟩ := idxOk_spec hF hok
          have hR := opd_R ht hx
          simp only [DV.R] at hR
          obtain ⟨b, hb, hv, hl0, hlc⟩ := hR
          have hRi := opd_R ht hix
          simp only [DV.R] at hRi
          have h1' : (e.ev ρ).int < (((len.ev ρ).int.toNat : Nat) : Int) := by omega
          refine ⟨.pointer (some ⟨b, of.den ρ + (e.ev ρ).int.toNat * i.size, none⟩), run_v ?_, ?_⟩
          · rw [hv, hRi]
            simp only [Instr.indexAt, Sem.run_bind, asIntOf, Sem.run_pure, Result.andThen_ok, run_underlying hu]
            rw [if_pos ⟨h0, h1'⟩]
            simp [sizeOf, typeInfo, hi, add_none]
          · simp only [DV.R]; exact ⟨b, hb, by rw [Off.den_addE]⟩
        · cases hd
      · cases hd
    · cases hd
  case index ty x ix =>
    split at hd
    · rename_i len el l k n hu hx hix
      split at hd
      · rename_i i hi
        split at hd
        · rename_i hn
          have hR := opd_R ht hx
          simp only [DV.R] at hR
          obtain ⟨vs, hv, hl⟩ := hR
          have hRi := opd_R ht hix
          simp only [DV.R, E.ev, Sc.int_I] at hRi
          obtain ⟨v, hv', hr⟩ := partD_sound (P := P) (w := w) hd hl
          refine ⟨v, run_v ?_, hr⟩
          rw [hv, hRi]
          simp only [Instr.index, Sem.run_bind, asIntOf, Sem.run_pure, Result.andThen_ok, run_underlying hu]
          rw [if_pos hn]
          simp [sizeOf, typeInfo, hi, hv']
        · cases hd
      · cases hd
    · rename_i s k e hu hx hix
      split at hd
      · rename_i hok
        cases hd
        obtain ⟨h0, h1⟩ := idxOk_spec hF hok
        rw [lenS_int] at h1
        have hR := opd_R ht hx
        simp only [DV.R] at hR
        have hRi := opd_R ht hix
        simp only [DV.R] at hRi
        have hlt : (e.ev ρ).int.toNat < (s.ev ρ).str.size := by omega
        refine ⟨.int .u8 (byteAt (s.ev ρ).str (e.ev ρ).int), run_v ?_, ?_⟩
        · rw [hR, hRi]
          simp only [Instr.index, Sem.run_bind, asIntOf, Sem.run_pure, Result.andThen_ok, run_underlying hu]
          rw [if_pos h0]
          have hget : (s.ev ρ).str[(e.ev ρ).int.toNat]? = some ((s.ev ρ).str.data.toList.getD (e.ev ρ).int.toNat 0) := by
            rw [getElem?_pos (s.ev ρ).str _ hlt]
            congr 1
            have hlt' : (e.ev ρ).int.toNat < (s.ev ρ).str.data.toList.length := by simpa using hlt
            rw [List.getD_eq_getElem?_getD, List.getElem?_eq_getElem hlt']
            rfl
          simp only [hget]
          rfl
        · simp only [DV.R]; rw [rwE_ev hF, atS_int]
      · cases hd
    · cases hd
  case extract x i =>
    split at hd
    · rename_i l hx
      have hR := opd_R ht hx
      simp only [DV.R] at hR
      obtain ⟨vs, hv, hl⟩ := hR
      obtain ⟨v, hv', hr⟩ := hl.get hd
      refine ⟨v, run_v ?_, hr⟩
      rw [hv]
      have : vs[i]? = some v := by simpa using hv'
      simp [Instr.extract, this]
    · cases hd
  case makeInterface ty x =>
    split at hd
    · cases hd
    · rename_i du dx hni hu hx
      cases hd
      refine ⟨.iface ty (a.eval x), run_v ?_, ?_⟩
      · simp only [Instr.makeInterface, Sem.run_bind, run_underlying hu, Result.andThen_ok]
        cases du <;> first | rfl | (rename_i ms; exact (hni ms _ hu).elim) | (exact absurd hu (fun hc => hni _ hc))
      · simp only [DV.R]; exact ⟨_, rfl, opd_R ht hx⟩
    · cases hd
  case makeFunc fn first cap =>
    split at hd
    · rename_i x y hx hy
      cases hd
      refine ⟨.func fn (first.map a.eval) (cap.map a.eval), run_v rfl, ?_⟩
      simp only [DV.R]
      exact ⟨_, _, rfl, by simpa using opds_R ht hx, by simpa using opds_R ht hy⟩
    · cases hd
  case slice ty x lo hi mx =>
    cases mx with
    | some mx => simp at hd
    | none =>
      simp only at hd
      split at hd
      · rename_i s hu hx
        split at hd
        · rename_i dl dh hl hh
          split at hd
          · rename_i e1 e2 hb
            cases hd
            have hR := opd_R ht hx
            simp only [DV.R] at hR
            have hlo : (∀ d, dl = some d → ∃ v, lo.map a.eval = some v ∧ d.R m ρ v) ∧ (dl = none → lo.map a.eval = none) := by
              cases lo with
              | none => simp at hl; subst hl; exact ⟨(fun d h => by cases h), fun _ => rfl⟩
              | some x =>
                simp only [Option.map_eq_some_iff] at hl
                obtain ⟨d', hd', rfl⟩ := hl
                exact ⟨(fun d h => by cases h; exact ⟨_, rfl, opd_R ht hd'⟩), (fun h => by cases h)⟩
            have hhi : (∀ d, dh = some d → ∃ v, hi.map a.eval = some v ∧ d.R m ρ v) ∧ (dh = none → hi.map a.eval = none) := by
              cases hi with
              | none => simp at hh; subst hh; exact ⟨(fun d h => by cases h), fun _ => rfl⟩
              | some x =>
                simp only [Option.map_eq_some_iff] at hh
                obtain ⟨d', hd', rfl⟩ := hh
                exact ⟨(fun d h => by cases h; exact ⟨_, rfl, opd_R ht hd'⟩), (fun h => by cases h)⟩
            obtain ⟨hrun, _⟩ := bndsD_spec (P := P) hF hb hlo.1 hlo.2 hhi.1 hhi.2 (s.ev ρ).str.size (s.ev ρ).str.size (lenS_int ρ s) (Int.le_of_eq (lenS_int ρ s)) false w
            refine ⟨.string ((s.ev ρ).str.extract (e1.ev ρ).int.toNat (e2.ev ρ).int.toNat), run_v ?_, ?_⟩
            · rw [hR]
              simp only [Instr.sliceAt, Instr.slice, Sem.run_bind, run_underlying hu, Result.andThen_ok, Option.map_none, Option.isSome_none, Bool.false_eq_true, if_false, hrun, Sem.run_pure]
            · simp only [DV.R]; rw [rwE_ev hF, subS_ev]
          · cases hd
        · cases hd
      · cases hd
  case call c =>
    obtain ⟨callee, args, argTypes⟩ := c
    simp only at hd
    split at hd
    · rename_i d0 hargs
      have hA := opds_R ht hargs
      simp only [DV.RL] at hA
      obtain ⟨v0, vr, he, hR, rfl⟩ := hA
      have hmap : args.map a.eval = #[v0] := Array.toList_inj.1 (by rw [Array.toList_map]; exact he)
      split at hd
      · rename_i ty hty
        have red : ∀ {v}, (Builtin.len_ argTypes type #[v0]).run P w = .ok v w → (execOp a.eval ⟨dst, .call ⟨.builtin .len, args, argTypes⟩, type, pos, after, guard⟩).run P w = .ok (.value v) w := by
          intro v hv
          simp [execOp, resolve, hmap, invoke, builtin, hv]
        split at hd
        · rename_i s hu
          cases hd
          simp only [DV.R] at hR; subst hR
          exact ⟨.int .i64 (s.ev ρ).str.size, red (by simp [Builtin.len_, hty, run_underlying hu, goInt]), by simp only [DV.R]; rw [lenS_int]⟩
        · rename_i e1 id of n cap hu
          cases hd
          simp only [DV.R] at hR
          obtain ⟨b, hb, rfl, h0, _⟩ := hR
          exact ⟨.int .i64 ((n.ev ρ).int.toNat : Nat), red (by simp [Builtin.len_, hty, run_underlying hu, goInt]), by simp only [DV.R]; rw [Int.toNat_of_nonneg h0]⟩
        · rename_i e1 hu
          cases hd
          simp only [DV.R] at hR; subst hR
          exact ⟨.int .i64 0, red (by simp [Builtin.len_, hty, run_underlying hu, goInt]), rfl⟩
        · rename_i e1 hu
          cases hd
          simp only [DV.R] at hR
          obtain ⟨z1, z2, rfl⟩ := hR
          exact ⟨.int .i64 0, red (by simp [Builtin.len_, hty, run_underlying hu, goInt]), rfl⟩
        · rename_i n e1 hu
          cases hd
          exact ⟨.int .i64 n, red (by simp [Builtin.len_, hty, run_underlying hu, goInt]), rfl⟩
        · rename_i e1 e2 hu
          cases hd
          simp only [DV.R] at hR; subst hR
          exact ⟨.int .i64 0, red (by simp [Builtin.len_, hty, run_underlying hu, goInt]), rfl⟩
        · cases hd
      · cases hd
    · rename_i k e1 k' e2 hargs
      cases hd
      have hA := opds_R ht hargs
      simp only [DV.RL, DV.R] at hA
      obtain ⟨v0, vr, he, rfl, v1, vr', rfl, rfl, rfl⟩ := hA
      have hmap : args.map a.eval = #[.int k (e1.ev ρ).int, .int k' (e2.ev ρ).int] := Array.toList_inj.1 (by rw [Array.toList_map]; exact he)
      refine ⟨_, ?_, maxFold hF k e1 e2⟩
      simp [execOp, resolve, hmap, invoke, builtin, Builtin.max_, Builtin.max2]
    · rename_i k e1 k' e2 hargs
      cases hd
      have hA := opds_R ht hargs
      simp only [DV.RL, DV.R] at hA
      obtain ⟨v0, vr, he, rfl, v1, vr', rfl, rfl, rfl⟩ := hA
      have hmap : args.map a.eval = #[.int k (e1.ev ρ).int, .int k' (e2.ev ρ).int] := Array.toList_inj.1 (by rw [Array.toList_map]; exact he)
      refine ⟨.int k (if (e2.ev ρ).int < (e1.ev ρ).int then (e2.ev ρ).int else (e1.ev ρ).int), ?_, ?_⟩
      · simp [execOp, resolve, hmap, invoke, builtin, Builtin.min_, Builtin.min2]
      · simp only [DV.R]
        rw [rwE_ev hF, iteE_ev hF, boolE_bool hF]
        simp only [E.ev, B2.ev, Sc.bool_B]
        by_cases h : (e2.ev ρ).int < (e1.ev ρ).int
        · simp [h]
        · simp [h]
    · cases hd

end

end Go.Eng
