/-
  A part of the proof whose end is the text 'YtngeeddmnnmlmaaLaw1': the verified evaluator ('Core') and what it finds of the functions ('Fn').
-/
import Derived.Test.YtngeeddmnnmlmaaCore1
import Derived.Laws.StructEq
import Derived.Conc.EntryLaws
import Derived.Orders
import Derived.KernelRfl
import Derived.ProofKit
import Derived.SizedLaws
set_option linter.all false
set_option linter.unusedVariables false
set_option linter.unusedSimpArgs false
set_option linter.unnecessarySimpa false
section
set_option linter.unusedSimpArgs false
set_option linter.unusedVariables false
namespace Go.Rf
open Go.RowKit
variable {E : Env} {P : Program}
section
variable {n : Nat} {F0 Wr : Nat → Nat → Prop} {w0 : Base} {loc : Nat → Nat} {F : Nat → Nat → Prop} {σ : St E.A} {a : Act} {w : World} {Q : Exit → Act → World → Prop}
variable {o : Oper} {t : Tree (Upd E)} {u : Upd E} {ctx : Ctx E}
theorem ex_builtin {c : Call} {b : Builtin} {v : Value} {w' : World} (ho : o.op = .call c) (hc : c.callee = .builtin b) (hv : (builtin b c.argTypes o.type (c.args.map fun | .const _ => true | _ => false) (c.args.map a.eval)).run P w = .ok (.value v) w') :
    (execOp a.eval o).run P w = .ok (.value v) w' := by
  obtain ⟨callee, args, argTypes⟩ := c
  simp only at hc; subst hc
  unfold execOp; rw [ho]
  simp only [resolve, invoke, Sem.run_bind, Sem.run_pure, Result.andThen_ok]
  exact hv
theorem args1 {c : Call} {x : Operand} (h : c.args.toList = [x]) : c.args = #[x] := by apply Array.ext'; simpa using h
theorem args2 {c : Call} {x y : Operand} (h : c.args.toList = [x, y]) : c.args = #[x, y] := by apply Array.ext'; simpa using h
theorem len_ok (h : Rel n F0 Wr w0 loc F σ a w) (htt : TTOk P E ctx.tt) {c : Call} (ho : o.op = .call c) (hc : c.callee = .builtin .len) (hr : (sLen ctx o.dst c).run σ = some t) (hu : t.reach u) (hn : ∀ d, o.dst = some d → d < n) :
    o.wp P a w (Goal n F0 Wr w0 (u ++ σ)) Q := by
  unfold sLen at hr
  split at hr
  · rename_i x t1 ha hat
    obtain ⟨tv, h1, h2, h3, hx4⟩ := rdT_ok h hr
    have hat' : c.argTypes = #[t1] := by apply Array.ext'; simpa using hat
    split at h3
    · rename_i s _ hty
      have e := LVstr (loc := loc) h1
      obtain ⟨d, info, z, hud, hd, _⟩ := htt _ _ hty
      simp only [descOk] at hd; subst hd
      refine wp_of_int h h3 hu hn (ex_builtin ho hc ?_)
      rw [args1 ha, hat']
      simp [builtin, Builtin.len_, run_underlying hud, e, goInt, size_mk]
    · rename_i i0 i xs _ hty
      obtain ⟨m, hv⟩ : ∃ m, VR E F w m ⟨.sl i, xs⟩ (a.eval x) := h1
      obtain ⟨k, ad, cp, us, rfl, e3, _⟩ := VRsl hv
      obtain ⟨d, info, z, hud, hd, _⟩ := htt _ _ hty
      simp only [descOk] at hd
      obtain ⟨rfl, _⟩ := hd
      refine wp_of_int h h3 hu hn (ex_builtin ho hc ?_)
      rw [args1 ha, hat']
      simp [builtin, Builtin.len_, run_underlying hud, e3, goInt]
    · simp [Rd.run] at h3
  · simp [Rd.run] at hr
theorem minmax_ok (h : Rel n F0 Wr w0 loc F σ a w) {mx : Bool} {c : Call} (ho : o.op = .call c) (hc : c.callee = .builtin (if mx then .max else .min)) (hr : (sMinMax mx o.dst c).run σ = some t) (hu : t.reach u) (hn : ∀ d, o.dst = some d → d < n) :
    o.wp P a w (Goal n F0 Wr w0 (u ++ σ)) Q := by
  unfold sMinMax at hr
  split at hr
  · rename_i x y ha
    obtain ⟨tv, h1, h2, h3, hx4⟩ := rdT_ok h hr
    obtain ⟨tv2, k1, k2, k3, hk4⟩ := rdT_ok h h3
    split at k3
    · rename_i k p _ k' q _
      have e1 := LVint (loc := loc) h1
      have e2 := LVint (loc := loc) k1
      refine wp_of_int h k3 hu hn (ex_builtin ho hc ?_)
      rw [args2 ha]
      cases mx with
      | true => simp [builtin, Builtin.max_, Builtin.max2, e1, e2]
      | false => simp [builtin, Builtin.min_, Builtin.min2, e1, e2]
    · simp [Rd.run] at k3
  · simp [Rd.run] at hr
theorem extract_ok (h : Rel n F0 Wr w0 loc F σ a w) {x : Operand} {k : Nat} (ho : o.op = .extract x k) (hr : (sExtract o.dst x k).run σ = some t) (hu : t.reach u) (hn : ∀ d, o.dst = some d → d < n) :
    o.wp P a w (Goal n F0 Wr w0 (u ++ σ)) Q := by
  unfold sExtract at hr
  split at hr
  · rename_i s
    cases hb : Nat.blt s 1000000 with
    | false => rw [hb] at hr; simp [Rd.run] at hr
    | true =>
      rw [hb] at hr
      simp only [cond_true, Rd.run] at hr
      have hs0 : Nat.lt s 1000000 := Nat.le_of_ble_eq_true hb
      split at hr
      · rename_i ts d hts hd
        have hs : s < n := by
          rcases Nat.lt_or_ge s n with hlt | hge
          · exact hlt
          · have := h.hi s hge hs0; rw [hts] at this; cases this
        have hdn := hn d hd
        have hrel := h.slot s hs
        rw [hts] at hrel
        obtain ⟨us, ev, hall⟩ := hrel
        split at hr
        · rename_i tv htv
          obtain ⟨v, hv, htvr⟩ := hall.get htv
          have hv' : us[k]? = some v := by simpa using hv
          have hex : (execOp a.eval o).run P w = .ok (.value v) w := ex_extract ho (by
            show (Instr.extract (a.tmps.getD s undef) k).run P w = _
            rw [ev]; simp [Instr.extract, hv'])
          have hnm : ∀ b ∈ tv.names, ∃ ty cells, get σ (bk b) = .blk ty cells := fun b hb => h.live s (.inl hs) b (by rw [hts]; exact List.mem_flatMap.2 ⟨tv, List.mem_of_getElem? htv, hb⟩)
          split at hr
          · rename_i i xs own
            cases hsd : Nat.beq s d with
            | true => rw [hsd] at hr; simp [Rd.run] at hr
            | false =>
              rw [hsd] at hr
              simp only [cond_false, Rd.run, Option.some.injEq] at hr
              subst hr; simp only [Tree.reach] at hu; subst hu
              have hne : s ≠ d := fun e => by subst e; simp at hsd
              have hset : All2 (TVR loc F w) (ts.set k (.leaf ⟨.sl i, xs⟩ false)) us.toList := by
                have h1 := hall.set k (a := .leaf ⟨.sl i, xs⟩ false) (b := v) htvr
                have : us.toList.set k v = us.toList := by
                  apply List.ext_getElem?
                  intro j
                  rw [List.getElem?_set]
                  split
                  · rename_i e; subst e
                    split
                    · exact hv.symm
                    · rename_i hh; rw [List.getElem?_eq_none (by omega)]
                  · rfl
                rwa [this] at h1
              have hnames : ∀ b ∈ (RV.tup false (ts.set k (.leaf ⟨.sl i, xs⟩ false))).names, b ∈ (get σ s).names := by
                intro b hb
                rw [hts]
                obtain ⟨x0, hx0, hb0⟩ := List.mem_flatMap.1 hb
                rcases List.mem_or_eq_of_mem_set hx0 with hx0 | rfl
                · exact List.mem_flatMap.2 ⟨x0, hx0, hb0⟩
                · simp [TV.names, Leaf.names] at hb0
              refine wp_val hex ?_
              rw [hd]
              cases own with
              | true =>
                refine ⟨loc, F, h.steal hdn (r := s) (k := k) (.tup s k i xs ts us v hs hts htv ev hv') hne (x' := .tup false (ts.set k (.leaf ⟨.sl i, xs⟩ false))) htvr (fun _ => ⟨us, ev, hset⟩) (fun b hb => absurd hb.symm (bk_ne_slot h.n_le hs)) (fun _ _ _ => by simp) (.inl hs) hnames ?_⟩
                intro k' i' xs' u' hh
                cases hh with
                | slot _ _ _ ht hg => rw [get_cons, if_pos rfl] at hg; cases hg
                | tup _ _ _ _ ts2 us2 _ ht hg hk hvv hu2 =>
                  rw [get_cons, if_pos rfl] at hg
                  injection hg with hg0 hg; subst hg0; subst hg
                  by_cases e : k' = k
                  · subst e
                    rw [List.getElem?_set_self (List.getElem?_eq_some_iff.1 htv).1] at hk
                    injection hk with hk; injection hk with _ hk; cases hk
                  · rw [List.getElem?_set_ne (Ne.symm e)] at hk
                    exact ⟨e, .tup s k' i' xs' ts us2 u' hs hts hk hvv hu2⟩
                | blk b _ _ _ ty cells _ hg => exact absurd rfl (bk_ne_slot h.n_le hs)
              | false =>
                -- the tuple's part has no flag; both updates are idle
                have h1 : Rel n F0 Wr w0 loc F ((s, .tup false (ts.set k (.leaf ⟨.sl i, xs⟩ false))) :: σ) a w := by
                  have hgb : ∀ b, get ((s, RV.tup false (ts.set k (.leaf ⟨.sl i, xs⟩ false))) :: σ) (bk b) = get σ (bk b) := fun b => by rw [get_cons, if_neg (fun e => bk_ne_slot h.n_le hs e.symm)]
                  refine h.move (M := fun r k x y => r = x ∧ k = y) h.size h.defers (fun t ht ht' => by rw [get_cons, if_neg (fun e => absurd hs (by rw [e]; exact Nat.not_lt.2 ht))]; exact h.hi t ht ht') (fun t ht => ?_) (fun b ty cells hc => ?_) (fun r hr b hbn => ?_)
                    (fun r k r' k' x y m m' => ⟨m.1.trans m'.1.symm, m.2.trans m'.2.symm⟩) (fun r k' i' xs' u' hh => .inr ⟨r, k', ⟨rfl, rfl⟩, ?_⟩) (fun _ _ _ _ _ _ _ _ => rfl) h.keep (Nat.le_refl _)
                  · rw [get_cons]
                    by_cases e : s = t
                    · subst e; rw [if_pos rfl]; exact ⟨us, ev, hset⟩
                    · rw [if_neg e]; exact h.slot t ht
                  · rw [hgb] at hc; obtain ⟨cs, h1, h2, _⟩ := h.blk b ty cells hc; exact ⟨cells, hc, cs, h1, h2⟩
                  · rw [hgb]; rw [get_cons] at hbn
                    by_cases e : s = r
                    · subst e; rw [if_pos rfl] at hbn; exact h.live s hr b (hnames b hbn)
                    · rw [if_neg e] at hbn; exact h.live r hr b hbn
                  · cases hh with
                    | slot t i xs ht hg =>
                      rw [get_cons] at hg
                      by_cases e : s = r
                      · rw [if_pos e] at hg; cases hg
                      · rw [if_neg e] at hg; exact .slot _ _ _ ht hg
                    | tup t _ _ _ ts2 us2 _ ht hg hk hvv hu2 =>
                      rw [get_cons] at hg
                      by_cases e : s = r
                      · subst e; rw [if_pos rfl] at hg; injection hg with hg0 hg; subst hg0; subst hg
                        by_cases e2 : k' = k
                        · subst e2; rw [List.getElem?_set_self (List.getElem?_eq_some_iff.1 htv).1] at hk
                          injection hk with hk; injection hk with _ hk; cases hk
                        · rw [List.getElem?_set_ne (Ne.symm e2)] at hk
                          exact .tup s k' _ _ ts us2 _ hs hts hk hvv hu2
                      · rw [if_neg e] at hg; exact .tup _ _ _ _ _ _ _ ht hg hk hvv hu2
                    | blk b _ _ _ ty cells _ hg hk hu2 => rw [hgb] at hg; exact .blk _ _ _ _ _ _ _ hg hk hu2
                exact ⟨loc, F, h1.put hdn (x := .v (.leaf ⟨.sl i, xs⟩ false)) htvr rfl (by intro b hb; simp [RV.names, TV.names, Leaf.names] at hb)⟩
          · simp only [Rd.run, Option.some.injEq] at hr
            subst hr; simp only [Tree.reach] at hu; subst hu
            exact wp_one h hd hdn hex (TVR_un htvr) (un_free _) (fun b hb => hnm b (by simpa [RV.names, un_names] using hb))
        · simp [Rd.run] at hr
      · simp [Rd.run] at hr
  · simp [Rd.run] at hr
end
end Go.Rf
end
section
set_option linter.unusedSimpArgs false
set_option linter.unusedVariables false
namespace Go.Rf
open Go.RowKit
variable {E : Env} {P : Program}
section
variable {n : Nat} {F0 Wr : Nat → Nat → Prop} {w0 : Base} {loc : Nat → Nat} {F : Nat → Nat → Prop} {σ : St E.A} {a : Act} {w : World} {Q : Exit → Act → World → Prop}
variable {o : Oper} {t : Tree (Upd E)} {u : Upd E} {ctx : Ctx E}
theorem places_ok : ∀ (fs : List Field), (∀ f ∈ fs, ∃ fi, P.info? f.type = some fi) → ∃ places, fs.mapM (fun f => (P.info? f.type).map fun i => (f.offset, i.size)) = some places ∧
    ∀ (i : Nat) fld, fs[i]? = some fld → ∃ info, P.info? fld.type = some info ∧ places[i]? = some (fld.offset, info.size)
  | [], _ => ⟨[], by simp, by simp⟩
  | f :: fs, h => by
    obtain ⟨fi, hfi⟩ := h f List.mem_cons_self
    obtain ⟨places, h1, h2⟩ := places_ok fs (fun g hg => h g (List.mem_cons_of_mem _ hg))
    refine ⟨(f.offset, fi.size) :: places, by simp [List.mapM_cons, hfi, h1], fun i fld hi => ?_⟩
    cases i with
    | zero => simp at hi; subst hi; exact ⟨fi, hfi, rfl⟩
    | succ i => simpa using h2 i fld (by simpa using hi)
theorem zero_leaves : ∀ {ls : List LT} {zs : List Value}, noSelf (ls.map (zeroCell E)) = true → All2 zeroOk ls zs → All2 (LV (E := E) loc F w) (ls.map (zeroLeaf E)) zs ∧ ∀ l ∈ ls.map (zeroLeaf E), l.names = none := by
  intro ls zs hns h
  obtain ⟨h1, _, h3⟩ := zero_ok (E := E) (me := 0) (loc := loc) (F := F) (w := w) h
  replace h1 := LVs_of_CVs hns h1
  have e : (ls.map (zeroCell E)).map (·.1) = ls.map (zeroLeaf E) := by simp [List.map_map, Function.comp_def, zeroCell]
  rw [e] at h1
  refine ⟨h1, fun l hl => ?_⟩
  rw [← e] at hl
  obtain ⟨p, hp, rfl⟩ := List.mem_map.1 hl
  exact h3 p hp
theorem parts_zip (parts : Array (Nat × Operand)) : (parts.map fun (i, x) => (i, a.eval x)).toList = ((parts.toList.map (·.1)).zip (parts.toList.map (·.2))).map fun p => (p.1, a.eval p.2) := by
  rw [Array.toList_map]
  generalize parts.toList = l
  induction l with
  | nil => rfl
  | cons p l ih => simp [ih]
theorem zl_leaves (nz : Bool) : ∀ {ls : List LT} {zs : List Value}, noSelf (ls.map (zeroCell E)) = true → All2 zeroOk ls zs → All2 (LV (E := E) loc F w) (ls.map (zl nz)) zs ∧ ∀ l ∈ ls.map (zl (E := E) nz), l.names = none
  | [], [], _, _ => ⟨trivial, by simp⟩
  | t :: ls, z :: zs, hn, h => by
    have hn1 : noSelf ([t].map (zeroCell E)) = true ∧ noSelf (ls.map (zeroCell E)) = true := by
      simp only [noSelf, List.map_cons, List.all_cons, Bool.and_eq_true, List.map_nil, List.all_nil, and_true] at hn ⊢
      exact hn
    obtain ⟨g1, g2⟩ := zl_leaves nz hn1.2 h.2
    obtain ⟨k1, k2⟩ := zero_leaves (E := E) (loc := loc) (F := F) (w := w) (ls := [t]) (zs := [z]) hn1.1 ⟨h.1, trivial⟩
    have hone : LV (E := E) loc F w (zl nz t) z ∧ (zl (E := E) nz t).names = none := by
      unfold zl
      split
      · have hz : z = .slice none 0 0 := h.1
        subst hz
        exact ⟨⟨1, rfl⟩, rfl⟩
      · exact ⟨k1.1, k2 _ (by simp)⟩
    refine ⟨⟨hone.1, g1⟩, fun l hl => ?_⟩
    rcases List.mem_cons.1 hl with rfl | hl
    · exact hone.2
    · exact g2 l hl
  | [], _ :: _, _, h => h.elim
  | _ :: _, [], _, h => h.elim
theorem build_ok (h : Rel n F0 Wr w0 loc F σ a w) (htt : TTOk P E ctx.tt) {nz : Bool} {s : TypeId} {parts : Array (Nat × Operand)} (ho : o.op = .build s parts) (hr : (sBuild ctx nz o.dst s parts).run σ = some t) (hu : t.reach u) (hn : ∀ d, o.dst = some d → d < n) :
    o.wp P a w (Goal n F0 Wr w0 (u ++ σ)) Q := by
  unfold sBuild at hr
  split at hr
  · rename_i ls fs hty
    obtain ⟨flds, info, zs, hud, hi, hsz, hz, hzo, hfs, hnz, _⟩ := htt _ _ hty
    have hns : noSelf (ls.map (zeroCell E)) = true := by
      cases hx : noSelf (ls.map (zeroCell E)) with
      | true => rfl
      | false => rw [hx] at hr; simp [Rd.run] at hr
    rw [hns] at hr
    simp only [Bool.not_true, cond_false] at hr
    obtain ⟨rvs, h1, h2⟩ := rdL_ok h hr
    split at h2
    · rename_i xs hxs
      have h3 := tvs_ok hxs h1
      split at h2
      · rename_i r hfill
        obtain ⟨places, hp1, hp2⟩ := places_ok (P := P) flds.toList (fun f hf => ⟨_, (hnz f hf).choose_spec.1⟩)
        obtain ⟨z1, z2⟩ := zl_leaves (E := E) (loc := loc) (F := F) (w := w) nz hns hzo
        obtain ⟨cs', f1, f2, f3⟩ := fill_ok (σ := σ) (a := a) (places := places.toArray) htt hfs (fun i fld hf => by
          have := hp2 i fld (by simpa using hf)
          simpa using this) (parts.toList.map (·.1)) xs (parts.toList.map (·.2)) (ls.map (zl nz)) r zs (by simp) (h3.mono (fun _ _ hx => ⟨hx.1, hx.2.1⟩)) hfill z1 (fun l hl b hb => by rw [z2 l hl] at hb; cases hb)
        refine wp_of_one h h2 hu hn (v := .agg cs') (ex_build ho (run_build w s _ cs' ?_)) ⟨cs', rfl, f2⟩ trivial (fun b hb => ?_)
        · unfold Program.built
          simp only [hi, hud, hz, hp1]
          rw [parts_zip]
          exact f1
        · obtain ⟨l, hl, e⟩ := List.mem_filterMap.1 hb
          exact f3 l hl b e
      · simp [Rd.run] at h2
    · simp [Rd.run] at h2
  · simp [Rd.run] at hr
theorem fill_row (size : Nat) : ∀ (vs : List Value) (k : Nat) (cs : Array Value), (∀ v ∈ vs, v.cells.size = size) → (k + vs.length) * size ≤ cs.size →
    Instr.fill (fun i => some (i * size, size)) cs ((List.range' k vs.length).zip vs) = some (splice (k * size) (vs.flatMap (·.cells.toList)) cs.toList).toArray
  | [], k, cs, _, _ => by simp [Instr.fill, splice]
  | v :: vs, k, cs, hv, hl => by
    have hv0 := hv v List.mem_cons_self
    have e1 : (k + (v :: vs).length) * size = k * size + size + vs.length * size := by simp [Nat.add_mul]; omega
    simp only [List.length_cons, List.range'_succ, List.zip_cons_cons, Instr.fill]
    rw [if_neg (by simp [hv0]; rw [e1] at hl; omega), fill_one _ _ _ (by rw [hv0]; rw [e1] at hl; omega)]
    have hlc : (splice (k * size) v.cells.toList cs.toList).toArray.size = cs.size := by
      rw [List.size_toArray, splice_len (by simp [hv0]; rw [e1] at hl; omega)]; simp
    have e3 : (k + 1 + vs.length) = (k + (v :: vs).length) := by simp; omega
    rw [fill_row size vs (k + 1) _ (fun v' hv' => hv v' (List.mem_cons_of_mem _ hv')) (by rw [hlc, e3]; exact hl)]
    have hfl : ∀ (l : List Value), (∀ v' ∈ l, v'.cells.size = size) → (l.flatMap (·.cells.toList)).length = l.length * size := by
      intro l hl'
      induction l with
      | nil => simp
      | cons x l ih =>
        rw [List.flatMap_cons, List.length_append, ih (fun v' hv' => hl' v' (List.mem_cons_of_mem _ hv')), List.length_cons, Nat.add_mul]
        have := hl' x List.mem_cons_self
        simp [this]; omega
    have hf := hfl vs (fun v' hv' => hv v' (List.mem_cons_of_mem _ hv'))
    congr 2
    apply List.ext_getElem?
    intro j
    have hk1 : (k + 1) * size = k * size + size := by rw [Nat.add_mul]; omega
    rw [e1] at hl
    rw [List.toList_toArray, splice_at (by rw [hf, hk1, splice_len (by simp [hv0]; omega)]; simp; omega), splice_at (by simp [hv0]; omega), splice_at (by rw [List.flatMap_cons, List.length_append, hf]; simp [hv0]; omega), hk1, hf]
    simp only [List.flatMap_cons, List.length_append, hf, Array.length_toList, hv0]
    by_cases h1 : j < k * size
    · rw [if_pos (by omega), if_pos h1, if_pos h1]
    · rw [if_neg h1]
      by_cases h2 : j < k * size + size
      · rw [if_pos h2, if_neg h1, if_pos h2, if_pos (by omega), List.getElem?_append_left (by simp [hv0]; omega)]
      · rw [if_neg h2]
        by_cases h3 : j < k * size + size + vs.length * size
        · rw [if_pos h3, if_neg h1, if_pos (by omega), List.getElem?_append_right (by simp [hv0]; omega)]
          congr 1; simp [hv0]; omega
        · rw [if_neg h3, if_neg h2, if_neg h1, if_neg (by omega)]
theorem LV_VR {l : Leaf E.A} {v : Value} (h : LV loc F w l v) (hl : l.t ≠ .ptr) : ∃ k, VR E F w k l v := by
  obtain ⟨lt, lx⟩ := l
  cases lt <;> first | exact h | exact absurd rfl hl
theorem elems_ok {i : Nat} : ∀ {xs : List (TV E.A)} {os : List Operand} {es : List (E.A i)} {p : Prop}, All2 (fun tv x => TVR loc F w tv (a.eval x)) xs os → elemsOf i (xs.map TV.leaves) = some (es, p) → p →
    All2 (fun l v => ∃ k, VR E F w k l v) (flat E i es) (os.flatMap fun x => (a.eval x).cells.toList) ∧ (∀ x ∈ os, (a.eval x).cells.size = sz E i) ∧ es.length = os.length
  | [], os, es, p, h, he, hp => by
    cases os with
    | cons _ _ => exact h.elim
    | nil => simp [elemsOf] at he; obtain ⟨rfl, _⟩ := he; exact ⟨trivial, by simp, rfl⟩
  | x :: xs, os, es, p, h, he, hp => by
    cases os with
    | nil => exact h.elim
    | cons o os =>
      simp only [List.map_cons, elemsOf] at he
      split at he
      · rename_i y q es' q' h1 h2
        injection he with he; injection he with e1 e2; subst e1; subst e2
        obtain ⟨ls', hc, hm⟩ := Option.bind_eq_some_iff.1 h1
        obtain ⟨r1, r2, r3⟩ := elems_ok h.2 h2 hp.2
        obtain ⟨c1, c2⟩ := TVR_cells h.1
        obtain ⟨d1, d2⟩ := coLeaves_ok hc c1
        have hy := E.leaves_mk i ls' y q hm hp.1
        subst hy
        have hf : flat E i (y :: es') = E.leaves i y ++ flat E i es' := by simp [flat]
        refine ⟨?_, fun x hx => ?_, by simp [r3]⟩
        · rw [hf, List.flatMap_cons]
          refine All2.app (d1.mono_mem (fun l hl v hv => LV_VR hv ?_)) r1
          have : l.t ∈ E.shape i := by rw [← E.leaves_shape i y]; exact List.mem_map.2 ⟨l, hl, rfl⟩
          exact (E.noptr i _ this).1
        · rcases List.mem_cons.1 hx with rfl | hx
          · have := d1.len; rw [leaves_len] at this; simpa using this.symm
          · exact r2 x hx
      · cases he
theorem zip_map_right {os : List Operand} (is : List Nat) : (is.zip os).map (fun p => (p.1, a.eval p.2)) = is.zip (os.map a.eval) := by
  induction is generalizing os with
  | nil => rfl
  | cons i is ih => cases os with
    | nil => rfl
    | cons o os => simp [ih]
theorem buildSlice_ok (h : Rel n F0 Wr w0 loc F σ a w) (htt : TTOk P E ctx.tt) {s : TypeId} {len : Nat} {parts : Array (Nat × Operand)} (ho : o.op = .buildSlice s len parts) (hr : (sBuildSlice ctx o.dst s len parts).run σ = some t) (hu : t.reach u) (hn : ∀ d, o.dst = some d → d < n) :
    o.wp P a w (Goal n F0 Wr w0 (u ++ σ)) Q := by
  unfold sBuildSlice at hr
  split at hr
  · rename_i i hty
    obtain ⟨d0, info0, z0, hud, hd0, _⟩ := htt _ _ hty
    simp only [descOk] at hd0
    obtain ⟨rfl, ⟨info, z, hi, hsz, hby, hz, hzs, hpos⟩, _⟩ := hd0
    obtain ⟨rvs, h1, h2⟩ := rdL_ok h hr
    split at h2
    · rename_i xs hxs
      have h3 := tvs_ok hxs h1
      split at h2
      · rename_i es p hel
        split at h2
        · rename_i hc
          obtain ⟨hc1, hc2, hc3⟩ := hc
          obtain ⟨t', h5, rfl⟩ := need_run h2
          obtain ⟨hp, hu⟩ := hu
          obtain ⟨d, hd, rfl⟩ := one_run h5
          simp only [Tree.reach] at hu; subst hu
          have hdn := hn d hd
          obtain ⟨r1, r2, r3⟩ := elems_ok (os := parts.toList.map (·.2)) (h3.mono (fun _ _ hx => hx.1)) hel hp
          have hlen : parts.toList.length = len := by have := congrArg List.length hc1; simpa using this
          have hszp : 0 < sz E i := List.length_pos_iff.2 (E.some0 i)
          have hvl : ((parts.toList.map (·.2)).map a.eval).length = len := by simp [hlen]
          have hfm : ((parts.toList.map (·.2)).map a.eval).flatMap (·.cells.toList) = (parts.toList.map (·.2)).flatMap fun x => (a.eval x).cells.toList := List.flatMap_map ..
          have hcell : (((parts.toList.map (·.2)).map a.eval).flatMap (·.cells.toList)).length = len * sz E i := by
            have := r1.len
            rw [flat_len, r3, List.length_map, hlen] at this
            rw [hfm]; exact this.symm
          have hrun : (Instr.buildSlice s len (parts.map fun (i, x) => (i, a.eval x))).run P w = .ok (.slice (some ⟨w.heap.size, 0, none⟩) len len) (w.alloc (.cells (((parts.toList.map (·.2)).map a.eval).flatMap (·.cells.toList)).toArray (E.elem i))) := by
            refine run_buildSlice w s (E.elem i) len _ _ info z hud hi hz (by rw [hsz]; unfold sz; omega) (by rw [hsz]; have := Nat.mul_pos hc2 hszp; omega) ?_
            rw [parts_zip, zip_map_right, hc1, hsz]
            have e1 : List.range len = List.range' 0 (((parts.toList.map (·.2)).map a.eval)).length := by rw [hvl, List.range_eq_range']
            rw [e1]
            have hin : ((Array.range (len * sz E i)).map (z.cells[· % z.cells.size]!)).size = len * sz E i := by simp
            rw [fill_row (sz E i) _ 0 _ (fun v hv => by obtain ⟨x, hx, rfl⟩ := List.mem_map.1 hv; exact r2 x hx) (by rw [hin, hvl]; simp)]
            congr 2
            apply List.ext_getElem?
            intro j
            rw [splice_at (by simp only [Nat.zero_mul]; rw [hcell, Array.length_toList, hin]; omega)]
            simp only [Nat.zero_mul, Nat.zero_add, Nat.not_lt_zero, if_false, Nat.sub_zero]
            rw [hcell]
            by_cases hj : j < len * sz E i
            · rw [if_pos hj]
            · rw [if_neg hj, List.getElem?_eq_none (by rw [Array.length_toList, hin]; omega), List.getElem?_eq_none (by rw [hcell]; omega)]
          refine wp_val (ex_buildSlice ho hrun) ?_
          rw [hd]
          have hel' : es.length = len := by rw [r3]; simp [hlen]
          refine h.fresh (wr := fun _ _ => False) (us := ((parts.toList.map (·.2)).map a.eval).flatMap (·.cells.toList)) hdn (Keep.below ((Below.refl _ _).alloc (Nat.le_refl _) _)) (fun _ _ f => f.elim) ⟨by rw [hcell, hel'], .inr ⟨w.heap.size, len, _, by rw [hel'], Nat.zero_le _, heap_alloc_new w _, by omega, ?_, by simpa using hcell, ?_⟩⟩ (fun g hg => ?_) (fun F' _ hm => ?_)
          · have hle : len ≤ 16777216 := Nat.le_trans (Nat.le_mul_of_pos_right _ hszp) hc3
            simp only [maxLen]; omega
          · rw [List.toList_toArray, hel', List.take_of_length_le (Nat.le_of_eq hcell)]
          · simp only [Value.ownBlock, Option.some.injEq] at hg; exact .inl (by omega)
          · obtain ⟨k, hk⟩ := all_fuel r1
            rw [← hfm] at hk
            exact ⟨k, hk.mono (fun _ _ hx => VR_mv hm hx)⟩
        · simp [Rd.run] at h2
      · simp [Rd.run] at h2
    · simp [Rd.run] at h2
  · simp [Rd.run] at hr
end
end Go.Rf
end
section
set_option linter.unusedSimpArgs false
set_option linter.unusedVariables false
namespace Go.Rf
open Go.RowKit
variable {E : Env} {P : Program}
section
variable {n : Nat} {F0 Wr : Nat → Nat → Prop} {w0 : Base} {loc : Nat → Nat} {F : Nat → Nat → Prop} {σ : St E.A} {a : Act} {w : World} {Q : Exit → Act → World → Prop}
variable {o : Oper} {t : Tree (Upd E)} {u : Upd E} {ctx : Ctx E}
theorem leavesEq_split : ∀ (s : Nat) {ls ms : List (Leaf E.A)} {r : Bool}, leavesEq ls ms = some r → ∃ r1 r2, leavesEq (ls.take s) (ms.take s) = some r1 ∧ leavesEq (ls.drop s) (ms.drop s) = some r2 ∧ r = (r1 && r2)
  | 0, ls, ms, r, h => ⟨true, r, by simp [leavesEq], by simpa using h, by simp⟩
  | s + 1, [], [], r, h => by simp [leavesEq] at h; subst h; exact ⟨true, true, by simp [leavesEq], by simp [leavesEq], rfl⟩
  | s + 1, [], _ :: _, r, h => by simp [leavesEq] at h
  | s + 1, _ :: _, [], r, h => by simp [leavesEq] at h
  | s + 1, l :: ls, m :: ms, r, h => by
    simp only [leavesEq] at h
    split at h
    · rename_i x y h1 h2
      injection h with h; subst h
      obtain ⟨r1, r2, g1, g2, rfl⟩ := leavesEq_split s h2
      exact ⟨x && r1, r2, by simp [leavesEq, h1, g1], by simpa using g2, by rw [Bool.and_assoc]⟩
    · cases h
theorem eq_leaf {s : TypeId} {l m : Leaf E.A} {v1 v2 : Value} {r : Bool} {d : Nat} (hty : TyOk P E s (.leaf l.t)) (h : leafEq l m = some r) (h1 : LV loc F w l v1) (h2 : LV loc F w m v2) : (Op.equalIn (d + 1) s v1 v2).run P w = .ok r w := by
  obtain ⟨td, info, z, hud, hd, _⟩ := hty
  unfold leafEq at h
  split at h
  · split at h
    · rename_i hk; subst hk
      injection h with h; subst h
      have e1 := LVint (loc := loc) h1; have e2 := LVint (loc := loc) h2; subst e1; subst e2
      simp only [descOk] at hd; subst hd
      exact run_equalIn_int w d s _ _ _ _ hud
    · cases h
  · injection h with h; subst h
    have e1 := LVbool (loc := loc) h1; have e2 := LVbool (loc := loc) h2; subst e1; subst e2
    simp only [descOk] at hd; subst hd
    exact run_equalIn_bool' w d s _ _ hud
  · rename_i p q _
    injection h with h; subst h
    have e1 := LVstr (loc := loc) h1; have e2 := LVstr (loc := loc) h2; subst e1; subst e2
    simp only [descOk] at hd; subst hd
    have := run_equalIn_string (P := P) w d s ⟨p.toArray⟩ ⟨q.toArray⟩ hud
    rw [toList_mk, toList_mk] at this
    exact this
  · cases h
/-- The right constructor for the type. -/
def Fits : Ty → TV E.A → Prop
  | .leaf _, .leaf _ _ => True
  | .agg _ _, .agg _ => True
  | _, _ => False
theorem asTV_fits {ty : Ty} {ls : List (Leaf E.A)} {tv : TV E.A} (h : asTV ty ls = some tv) : Fits ty tv := by
  unfold asTV at h
  split at h
  · injection h with h; subst h; trivial
  · split at h
    · injection h with h; subst h; trivial
    · cases h
  · cases h
/-- A value out of its leaves. -/
theorem asTV_of_shape {ty : Ty} {ls : List (Leaf E.A)} (h : ls.map (·.t) = ty.shape) : ∃ tv, asTV ty ls = some tv ∧ tv.leaves = ls := by
  cases ty with
  | leaf l =>
    match ls, h with
    | [x], _ => exact ⟨_, rfl, rfl⟩
    | [], h => simp [Ty.shape] at h
    | _ :: _ :: _, h => simp [Ty.shape] at h
  | agg ts fs =>
    have := congrArg List.length h
    simp [Ty.shape] at this
    exact ⟨.agg ls, by simp [asTV, this], rfl⟩
theorem eqFields_ok {tt : TT} (htt : TTOk P E tt) {d k : Nat}
    (ih : ∀ s ty, eqPlan tt k s = true → ttGet tt s = some ty → ∀ (x y : TV E.A) v1 v2 r, TVR loc F w x v1 → TVR loc F w y v2 → Fits ty x → Fits ty y → x.leaves.map (·.t) = ty.shape → y.leaves.map (·.t) = ty.shape → leavesEq x.leaves y.leaves = some r → (Op.equalIn d s v1 v2).run P w = .ok r w)
    {ls ms : List (Leaf E.A)} {cs1 cs2 : Array Value} (h1 : All2 (LV loc F w) ls cs1.toList) (h2 : All2 (LV loc F w) ms cs2.toList) :
    ∀ (flds : List Field) (off : Nat) (r : Bool), (∀ f ∈ flds, f.name ≠ "_") → tiles tt off (flds.map fun f => (f.offset, f.type)) ((ls.drop off).map (·.t)) = true → (flds.map fun f => (f.offset, f.type)).all (fun p => eqPlan tt k p.2) = true →
      (ls.drop off).map (·.t) = (ms.drop off).map (·.t) → leavesEq (ls.drop off) (ms.drop off) = some r → (Op.eqFields d cs1 cs2 flds).run P w = .ok r w
  | [], off, r, _, ht, _, hs, hr => by
    simp only [List.map_nil, tiles, List.isEmpty_iff, List.map_eq_nil_iff] at ht
    rw [ht] at hr hs
    have : ms.drop off = [] := by simpa using hs.symm
    rw [this] at hr
    simp [leavesEq] at hr; subst hr
    simp [Op.eqFields]
  | f :: flds, off, r, hn, ht, ha, hs, hr => by
    simp only [List.map_cons, tiles] at ht
    split at ht
    · rename_i ty hty
      simp only [Bool.and_eq_true] at ht
      obtain ⟨⟨ht1, ht2⟩, ht3⟩ := ht
      have hoff : f.offset = off := Nat.eq_of_beq_eq_true ht1
      have hsh1 : ((ls.drop off).take ty.size).map (·.t) = ty.shape := by rw [List.map_take]; exact eq_of_beq ht2
      have hsh2 : ((ms.drop off).take ty.size).map (·.t) = ty.shape := by rw [List.map_take, ← hs]; exact eq_of_beq ht2
      obtain ⟨r1, r2, g1, g2, rfl⟩ := leavesEq_split ty.size hr
      obtain ⟨x, hx, hxl⟩ := asTV_of_shape hsh1
      obtain ⟨y, hy, hyl⟩ := asTV_of_shape hsh2
      obtain ⟨v1, p1, q1, _⟩ := part_ok (htt _ _ hty) h1 hx
      obtain ⟨v2, p2, q2, _⟩ := part_ok (htt _ _ hty) h2 hy
      simp only [List.map_cons, List.all_cons, Bool.and_eq_true] at ha
      have he := ih f.type ty ha.1 hty x y v1 v2 r1 q1 q2 (asTV_fits hx) (asTV_fits hy) (by rw [hxl]; exact hsh1) (by rw [hyl]; exact hsh2) (by rw [hxl, hyl]; exact g1)
      have hrest := eqFields_ok htt ih h1 h2 flds (off + ty.size) r2 (fun g hg => hn g (List.mem_cons_of_mem _ hg)) (by rw [← List.drop_drop, List.map_drop]; exact ht3) ha.2
        (by rw [← List.drop_drop, ← List.drop_drop, List.map_drop, List.map_drop (l := ms.drop off), hs]) (by rw [← List.drop_drop, ← List.drop_drop]; exact g2)
      have hnm : f.name ≠ "_" := hn f List.mem_cons_self
      rw [Op.eqFields, if_pos hnm, hoff]
      simp only [Sem.run_bind, p1, p2, he, Result.andThen_ok]
      cases r1
      · simp
      · simpa using hrest
    · cases ht
theorem eqIn_ok {tt : TT} (htt : TTOk P E tt) : ∀ (k d : Nat), k ≤ d → ∀ s ty, eqPlan tt k s = true → ttGet tt s = some ty → ∀ (x y : TV E.A) v1 v2 r, TVR loc F w x v1 → TVR loc F w y v2 → Fits ty x → Fits ty y → x.leaves.map (·.t) = ty.shape → y.leaves.map (·.t) = ty.shape →
    leavesEq x.leaves y.leaves = some r → (Op.equalIn d s v1 v2).run P w = .ok r w
  | 0, d, _, s, ty, hp, _, x, y, v1, v2, r, _, _, _, _, _, _, _ => by simp [eqPlan] at hp
  | k + 1, d, hkd, s, ty, hp, hty, x, y, v1, v2, r, hx, hy, fx, fy, sx, sy, hr => by
    obtain ⟨d, rfl⟩ : ∃ m, d = m + 1 := ⟨d - 1, by omega⟩
    have hT := htt _ _ hty
    cases ty with
    | leaf lt =>
      cases x with
      | agg ls => exact fx.elim
      | leaf l1 o1 =>
        cases y with
        | agg ls => exact fy.elim
        | leaf l2 o2 =>
          simp only [TV.leaves, leavesEq] at hr
          split at hr
          · rename_i q1 q2 e1 e2
            injection e2 with e2; subst e2
            injection hr with hr; subst hr
            simp [TV.leaves, Ty.shape] at sx
            have := eq_leaf (loc := loc) (F := F) (w := w) (d := d) (by rw [sx]; exact hT) e1 hx hy
            simpa using this
          · cases hr
    | agg ts fs =>
      obtain ⟨flds, info, zs, hud, hi, hsz, hz, hzo, hfs, hnz, hst, _, hnm⟩ := hT
      have hfo : P.fieldsOf s = flds := by simp [Program.fieldsOf, hud]
      simp only [eqPlan, hty, Bool.and_eq_true] at hp
      cases x with
      | leaf l1 o1 => exact fx.elim
      | agg ls =>
        cases y with
        | leaf l2 o2 => exact fy.elim
        | agg ms =>
          obtain ⟨cs1, rfl, h1⟩ := hx
          obtain ⟨cs2, rfl, h2⟩ := hy
          rw [run_equalIn_struct (P := P) w d s cs1 cs2 (by rw [hfo]; exact hud) hst, hfo]
          simp only [TV.leaves, Ty.shape] at sx sy hr
          subst hfs
          exact eqFields_ok htt (fun s' ty' hp' ht' => eqIn_ok htt k d (by omega) s' ty' hp' ht') h1 h2 flds.toList 0 r hnm (by simpa [sx] using hp.1) hp.2 (by simp [sx, sy]) (by simpa using hr)
theorem leavesEq_len : ∀ {ls ms : List (Leaf E.A)} {r : Bool}, leavesEq ls ms = some r → ls.map (·.t) = ms.map (·.t)
  | [], [], _, _ => rfl
  | [], _ :: _, _, h => by simp [leavesEq] at h
  | _ :: _, [], _, h => by simp [leavesEq] at h
  | l :: ls, m :: ms, r, h => by
    simp only [leavesEq] at h
    split at h
    · rename_i x y h1 h2
      have ht : l.t = m.t := by
        unfold leafEq at h1
        split at h1
        · split at h1
          · rename_i e; subst e; rfl
          · cases h1
        · rfl
        · rfl
        · cases h1
      simp only [List.map_cons, ht, leavesEq_len h2]
    · cases h
theorem bin_ok (h : Rel n F0 Wr w0 loc F σ a w) {op : BinOp} {xt yt : TypeId} {x y : Operand} (htt : TTOk P E ctx.tt) (ho : o.op = .binOp op xt x y yt) (hr : (sBin ctx op o.dst xt x y).run σ = some t) (hu : t.reach u) (hn : ∀ d, o.dst = some d → d < n) :
    o.wp P a w (Goal n F0 Wr w0 (u ++ σ)) Q := by
  simp only [sBin] at hr
  obtain ⟨tv1, h1, -, hr1, -, -⟩ := rdT_ok h hr
  obtain ⟨tv2, h2, -, hr2, -, -⟩ := rdT_ok h hr1
  clear hr hr1
  have hr := hr2
  clear hr2
  split at hr
  · rename_i b o1 c o2
    split at hr
    · rename_i hty
      cases hc : (isConst x && !b) with
      | true =>
        rw [hc] at hr; simp only [cond_true] at hr
        simp only [Bool.and_eq_true, Bool.not_eq_true'] at hc
        obtain ⟨hc1, rfl⟩ := hc
        refine wp_emit h hr hu hn fun q l e hq => ?_
        obtain ⟨hnm, v, g1, g2⟩ := err_run (x := x) (y := y) (htt _ _ hty) h1 h2 (.inl ⟨by have := LVerr (loc := loc) h1; simpa using this, hc1, rfl⟩) e
        exact ⟨hnm, v, g1, run_bin ho g2⟩
      | false =>
        rw [hc] at hr; simp only [cond_false] at hr
        cases hd : (isConst y && !c) with
        | false => rw [hd] at hr; simp [Rd.run] at hr
        | true =>
          rw [hd] at hr; simp only [cond_true] at hr
          simp only [Bool.and_eq_true, Bool.not_eq_true'] at hd
          obtain ⟨hd1, rfl⟩ := hd
          refine wp_emit h hr hu hn fun q l e hq => ?_
          obtain ⟨hnm, v, g1, g2⟩ := err_run (x := x) (y := y) (htt _ _ hty) h1 h2 (.inr ⟨by have := LVerr (loc := loc) h2; simpa using this, hd1, rfl⟩) e
          exact ⟨hnm, v, g1, run_bin ho g2⟩
    · simp [Rd.run] at hr
  · split at hr
    · rename_i hty
      refine wp_emit h hr hu hn fun q l e hq => ?_
      obtain ⟨hnm, v, g1, g2⟩ := leaf_run (x := x) (y := y) (htt _ _ hty) h1 h2 e hq
      exact ⟨hnm, v, g1, run_bin ho g2⟩
    · simp [Rd.run] at hr
  · rename_i as bs
    split at hr
    · rename_i ls fs r hty hle
      split at hr
      · rename_i hc
        refine wp_emit h hr hu hn fun q l e hq => ?_
        have hT := htt _ _ hty
        obtain ⟨flds, info, zs, hud, hi, hsz, hz, hzo, hfs, hnz, hst, hge, hnm⟩ := hT
        have heq : (Op.equal xt (a.eval x) (a.eval y)).run P w = .ok r w := by
          rw [equal_step]
          exact eqIn_ok htt 6 10000 (by omega) xt _ hc.2 hty (.agg as) (.agg bs) _ _ r h1 h2 trivial trivial hc.1 (by rw [← hc.1]; exact (leavesEq_len hle).symm) hle
        obtain ⟨cs1, e1, _⟩ := h1
        obtain ⟨cs2, e2, _⟩ := h2
        obtain ⟨hnm, v, g1, g2⟩ := eq_run (loc := loc) (F := F) (w := w) (P := P) (xt := xt) (x := x) (y := y) (v1 := a.eval x) (v2 := a.eval y) e (by rw [e1, e2]; exact run_eqGuard_agg _ op xt x y cs1 cs2 hge) heq (by rw [e1, e2]; rintro op (rfl | rfl) <;> rfl)
        exact ⟨hnm, v, g1, run_bin ho g2⟩
      · simp [Rd.run] at hr
    · simp [Rd.run] at hr
  · simp [Rd.run] at hr
end
end Go.Rf
end
section
set_option linter.unusedSimpArgs false
set_option linter.unusedVariables false
namespace Go.Rf
open Go.RowKit
variable {E : Env} {P : Program}
section
variable {n : Nat} {F0 Wr : Nat → Nat → Prop} {w0 : Base} {loc : Nat → Nat} {F : Nat → Nat → Prop} {σ : St E.A} {a : Act} {w : World} {Q : Exit → Act → World → Prop}
theorem get_numbered : ∀ (l : List (RV E.A)) (s : Nat) (σ : St E.A) (r : Nat), get (numbered s l ++ σ) r = if s ≤ r ∧ r < s + l.length then l.getD (r - s) .any else get σ r
  | [], s, σ, r => by simp [numbered]; intro h1 h2; omega
  | x :: l, s, σ, r => by
    simp only [numbered, List.cons_append, get_cons, List.length_cons]
    rw [get_numbered l (s + 1) σ r]
    by_cases h : s = r
    · subst h; simp
    · rw [if_neg h]
      by_cases h2 : s ≤ r ∧ r < s + (l.length + 1)
      · rw [if_pos h2, if_pos (by omega)]
        obtain ⟨m, hm⟩ : ∃ m, r - s = m + 1 := ⟨r - s - 1, by omega⟩
        rw [hm, show r - (s + 1) = m by omega]; simp
      · rw [if_neg h2, if_neg (by omega)]
theorem get_begin_slot {xs : List (TV E.A)} {vs : List (RV E.A)} {t : Nat} {x : TV E.A} (h : xs[t]? = some x) : get (begin_ xs vs) t = .v x := by
  have hl : t < xs.length := (List.getElem?_eq_some_iff.1 h).1
  unfold begin_
  rw [get_numbered, if_pos ⟨by omega, by simpa using hl⟩]
  simp [List.getD_eq_getElem?_getD, h]
theorem get_nil (r : Nat) : get ([] : St E.A) r = .any := rfl
theorem get_begin_out {xs : List (TV E.A)} {vs : List (RV E.A)} {t : Nat} (h : xs.length ≤ t) (h2 : t < 1000000) : get (begin_ xs vs) t = .any := by
  unfold begin_
  rw [get_numbered, if_neg (by simp; omega), ← List.append_nil (numbered 1000000 vs), get_numbered, if_neg (by omega), get_nil]
theorem get_begin_bk {xs : List (TV E.A)} {vs : List (RV E.A)} (h : xs.length ≤ 1000000) (j : Nat) : get (begin_ xs vs) (bk j) = vs.getD j .any := by
  unfold begin_ bk
  rw [get_numbered, if_neg (by simp; omega), ← List.append_nil (numbered 1000000 vs), get_numbered]
  by_cases hj : j < vs.length
  · rw [if_pos ⟨by omega, by omega⟩, show 1000000 + j - 1000000 = j by omega]
  · rw [if_neg (by omega), get_nil, List.getD_eq_getElem?_getD, List.getElem?_eq_none (by omega)]; rfl
/-- The variables that are lent, by the callee's names. -/
def lent (loc : Nat → Nat) (bs : List (Option Nat)) (j : Nat) : Nat := loc ((bs.getD j none).getD 0)
/-- What a call hands over. T: the slot that an argument's row is taken from. -/
structure Lends (n : Nat) (loc : Nat → Nat) (F : Nat → Nat → Prop) (σ : St E.A) (a : Act) (w : World) (args : Array Value) (ys : List (TV E.A)) (vs : List (RV E.A)) (bs : List (Option Nat)) (T : Nat → Nat → Prop) : Prop where
  yl : ys.length = args.size
  vl : vs.length = args.size
  le : args.size ≤ 1000000
  tv : ∀ (j : Nat) (y : TV E.A), ys[j]? = some y → TVR (lent loc bs) F w y (args.getD j undef)
  nm : ∀ (j : Nat) (y : TV E.A) (b' : Nat), ys[j]? = some y → b' ∈ y.names → b' = j ∧ ∃ b, bs[j]? = some (some b)
  bl : ∀ (j b : Nat), bs[j]? = some (some b) → ∃ (ty : TypeId) (cells : List (Leaf E.A × Bool)), get σ (bk b) = .blk ty cells ∧ vs[j]? = some (.blk ty cells) ∧ (RV.blk ty cells).names = []
  bn : ∀ (j : Nat), (∀ (b : Nat), bs[j]? ≠ some (some b)) → vs.getD j .any = .any
  nd : ∀ (j j' b : Nat), bs[j]? = some (some b) → bs[j']? = some (some b) → j = j'
  ow : ∀ (j i : Nat) (xs : List (E.A i)), ys[j]? = some (.leaf ⟨.sl i, xs⟩ true) → (xs = [] ∧ args.getD j undef = .slice none 0 0) ∨ ∃ t : Nat, T j t ∧ t < n ∧ get σ t = .v (.leaf ⟨.sl i, xs⟩ true) ∧ args.getD j undef = a.tmps.getD t undef
  td : ∀ j j' t, T j t → T j' t → j = j'
  tn : ∀ j t, T j t → t < n
variable {args : Array Value} {ys : List (TV E.A)} {vs : List (RV E.A)} {bs : List (Option Nat)} {T : Nat → Nat → Prop}
theorem lent_some {j b : Nat} (h : bs[j]? = some (some b)) : lent loc bs j = loc b := by
  simp [lent, List.getD_eq_getElem?_getD, h]
/-- The caller's name of a callee's holder. -/
def From (bs : List (Option Nat)) (T : Nat → Nat → Prop) (r r' : Nat) : Prop := T r r' ∨ ∃ j b : Nat, bs[j]? = some (some b) ∧ r = bk j ∧ r' = bk b
theorem Lends.hold (l : Lends n loc F σ a w args ys vs bs T) {r k i : Nat} {xs : List (E.A i)} {u : Value} (hh : Hold (lent loc bs) args.size (begin_ ys vs) ⟨args, []⟩ w r k i xs u) :
    (xs = [] ∧ u = .slice none 0 0) ∨ ∃ r', From bs T r r' ∧ Hold loc n σ a w r' k i xs u := by
  have hslot : ∀ t, t < args.size → ∃ y, ys[t]? = some y ∧ get (begin_ ys vs) t = .v y := by
    intro t ht
    have : t < ys.length := by rw [l.yl]; exact ht
    exact ⟨ys[t], List.getElem?_eq_getElem this, get_begin_slot (List.getElem?_eq_getElem this)⟩
  cases hh with
  | slot t i xs ht hg =>
    obtain ⟨y, hy, hy'⟩ := hslot r ht
    rw [hy'] at hg; injection hg with hg; subst hg
    rcases l.ow r i xs hy with ⟨e1, e2⟩ | ⟨t, h1, h2, h3, h4⟩
    · exact .inl ⟨e1, e2⟩
    · refine .inr ⟨t, .inl h1, ?_⟩
      show Hold loc n σ a w t 0 i xs (args.getD r undef)
      rw [h4]; exact .slot t i xs h2 h3
  | tup t k i xs ts us u ht hg hk hv hu =>
    obtain ⟨y, hy, hy'⟩ := hslot r ht
    rw [hy'] at hg; cases hg
  | blk b k i xs ty cells u hg hk hu =>
    rw [get_begin_bk (by rw [l.yl]; exact l.le)] at hg
    cases hb : bs[b]? with
    | none => rw [l.bn b (by rw [hb]; simp)] at hg; cases hg
    | some ob =>
      cases ob with
      | none => rw [l.bn b (by rw [hb]; simp)] at hg; cases hg
      | some c =>
        obtain ⟨ty', cells', h1, h2, _⟩ := l.bl b c hb
        rw [List.getD_eq_getElem?_getD, h2] at hg
        injection hg with e1 e2; subst e1; subst e2
        rw [lent_some hb] at hu
        exact .inr ⟨bk c, .inr ⟨b, c, hb, rfl, rfl⟩, .blk c k i xs ty' cells' u h1 hk hu⟩
/-- What the callee may write of what was there. -/
def Lets (loc : Nat → Nat) (w : World) (args : Array Value) (ys : List (TV E.A)) (vs : List (RV E.A)) (bs : List (Option Nat)) (g o : Nat) : Prop :=
  (∃ j b : Nat, bs[j]? = some (some b) ∧ g = loc b) ∨ ∃ (r k i : Nat) (xs : List (E.A i)) (u : Value), Hold (lent loc bs) args.size (begin_ ys vs) ⟨args, []⟩ w r k i xs u ∧ u.ownBlock = some g ∧ xs.length * sz E i ≤ o
theorem Lends.enter (h : Rel n F0 Wr w0 loc F σ a w) (l : Lends n loc F σ a w args ys vs bs T) : Rel args.size F (Lets loc w args ys vs bs) ⟨w, args.size, lent loc bs⟩ (lent loc bs) F (begin_ ys vs) ⟨args, []⟩ w := by
  have hyl : ys.length ≤ 1000000 := by rw [l.yl]; exact l.le
  have hblk : ∀ j ty cells, get (begin_ ys vs) (bk j) = .blk ty cells → ∃ b, bs[j]? = some (some b) ∧ get σ (bk b) = .blk ty cells ∧ (RV.blk ty cells).names = [] := by
    intro j ty cells hg
    rw [get_begin_bk hyl] at hg
    cases hb : bs[j]? with
    | none => rw [l.bn j (by rw [hb]; simp)] at hg; cases hg
    | some ob =>
      cases ob with
      | none => rw [l.bn j (by rw [hb]; simp)] at hg; cases hg
      | some c =>
        obtain ⟨ty', cells', h1, h2, h3⟩ := l.bl j c hb
        rw [List.getD_eq_getElem?_getD, h2] at hg
        injection hg with e1 e2; subst e1; subst e2
        exact ⟨c, rfl, h1, h3⟩
  refine ⟨rfl, l.le, rfl, fun t h1 h2 => get_begin_out (by rw [l.yl]; exact h1) h2, fun t ht => ?_, fun j ty cells hg => ?_, fun j j' ty cells ty' cells' h1 h2 e => ?_, fun r hr b hb => ?_, fun r k i xs u hh => ?_, fun r k i xs u r' k' i' xs' u' g h1 h2 e1 e2 => ?_, fun r k i xs u g b ty cells h1 e hb => ?_, Keep.refl _ _, h.dom, fun _ _ _ hf => hf, fun _ _ _ hf _ => hf, fun _ _ => rfl⟩
  · have : t < ys.length := by rw [l.yl]; exact ht
    rw [get_begin_slot (List.getElem?_eq_getElem this)]
    exact l.tv t _ (List.getElem?_eq_getElem this)
  · obtain ⟨b, hb, hg', hn⟩ := hblk j ty cells hg
    obtain ⟨cs, h1, h2, h3⟩ := h.blk b ty cells hg'
    rw [lent_some hb]
    refine ⟨cs, h1, h2.mono_mem (fun x hx v hv => CV_mv Mv.refl (fun b' hb' => ?_) hv), fun o => ⟨(h3 o).1, fun _ => .inl ⟨j, b, hb, rfl⟩⟩⟩
    obtain ⟨p, hp, rfl⟩ := List.mem_map.1 hx
    have : b' ∈ (RV.blk ty cells).names := List.mem_filterMap.2 ⟨p, hp, hb'⟩
    rw [hn] at this; cases this
  · obtain ⟨b, hb, hg1, _⟩ := hblk j _ _ h1
    obtain ⟨b', hb', hg2, _⟩ := hblk j' _ _ h2
    rw [lent_some hb, lent_some hb'] at e
    have := h.inj _ _ _ _ _ _ hg1 hg2 e
    subst this
    exact l.nd _ _ _ hb hb'
  · by_cases hlt : r < args.size
    · have : r < ys.length := by rw [l.yl]; exact hlt
      rw [get_begin_slot (List.getElem?_eq_getElem this)] at hb
      obtain ⟨rfl, c, hc⟩ := l.nm r _ b (List.getElem?_eq_getElem this) hb
      obtain ⟨ty, cells, h1, h2, _⟩ := l.bl _ c hc
      exact ⟨ty, cells, by rw [get_begin_bk hyl, List.getD_eq_getElem?_getD, h2]; rfl⟩
    · have hr' : 1000000 ≤ r := hr.resolve_left hlt
      obtain ⟨j, rfl⟩ : ∃ j, r = bk j := ⟨r - 1000000, by unfold bk; omega⟩
      cases hx : get (begin_ ys vs) (bk j) with
      | blk ty cells =>
        obtain ⟨_, _, _, hn⟩ := hblk j ty cells hx
        rw [hx, hn] at hb; cases hb
      | any => rw [hx] at hb; simp [RV.names] at hb
      | _ =>
        rw [get_begin_bk hyl] at hx
        cases hb2 : bs[j]? with
        | none => rw [l.bn j (by rw [hb2]; simp)] at hx; cases hx
        | some ob =>
          cases ob with
          | none => rw [l.bn j (by rw [hb2]; simp)] at hx; cases hx
          | some c =>
            obtain ⟨ty', cells', h1, h2, h3⟩ := l.bl j c hb2
            rw [List.getD_eq_getElem?_getD, h2] at hx; cases hx
  · rcases l.hold hh with ⟨rfl, rfl⟩ | ⟨r', _, h0⟩
    · exact ⟨⟨[], World.ownsRow_nil ..⟩, fun g hg => by simp [Value.ownBlock] at hg⟩
    · obtain ⟨ho, ht⟩ := h.own _ _ _ _ _ h0
      exact ⟨ho, fun g hg o hlo => ⟨(ht g hg o hlo).1, fun _ => .inr ⟨r, k, i, xs, u, hh, hg, hlo⟩⟩⟩
  · rcases l.hold h1 with ⟨rfl, rfl⟩ | ⟨s, f1, g1⟩
    · simp [Value.ownBlock] at e1
    rcases l.hold h2 with ⟨rfl, rfl⟩ | ⟨s', f2, g2⟩
    · simp [Value.ownBlock] at e2
    obtain ⟨e, ek⟩ := h.sep _ _ _ _ _ _ _ _ _ _ g g1 g2 e1 e2
    subst e
    refine ⟨?_, ek⟩
    rcases f1 with f1 | ⟨j, b, hb, rfl, rfl⟩ <;> rcases f2 with f2 | ⟨j', b', hb', rfl, e'⟩
    · exact l.td _ _ _ f1 f2
    · exact absurd e'.symm (bk_ne_slot h.n_le (l.tn _ _ f1))
    · exact absurd rfl (bk_ne_slot h.n_le (l.tn _ _ f2))
    · obtain rfl := bk_inj e'
      rw [l.nd _ _ _ hb hb']
  · obtain ⟨c, hc, hg, _⟩ := hblk b ty cells hb
    rcases l.hold h1 with ⟨rfl, rfl⟩ | ⟨s, _, g1⟩
    · simp [Value.ownBlock] at e
    rw [lent_some hc]
    exact h.apart _ _ _ _ _ g c ty cells g1 e hg
end
end Go.Rf
end
section
set_option linter.unusedSimpArgs false
set_option linter.unusedVariables false
namespace Go.Rf
open Go.RowKit
variable {E : Env} {P : Program}
section
variable {n : Nat} {F0 Wr : Nat → Nat → Prop} {w0 : Base} {loc : Nat → Nat} {F : Nat → Nat → Prop} {σ : St E.A} {a : Act} {w : World} {Q : Exit → Act → World → Prop}
variable {args : Array Value} {ys : List (TV E.A)} {vs : List (RV E.A)} {bs : List (Option Nat)} {T : Nat → Nat → Prop}
def Kept (bs : List (Option Nat)) (T : Nat → Nat → Prop) (r : Nat) : Prop := (∀ j, ¬ T j r) ∧ ∀ j b : Nat, bs[j]? = some (some b) → r ≠ bk b
theorem Lends.old (l : Lends n loc F σ a w args ys vs bs T) (h : Rel n F0 Wr w0 loc F σ a w) {r k i : Nat} {xs : List (E.A i)} {u : Value} {g : Nat} (hh : Hold loc n σ a w r k i xs u) (hk : Kept bs T r) (hg : u.ownBlock = some g) (o : Nat) :
    ¬ Lets loc w args ys vs bs g o := by
  rintro (⟨j, b, hb, rfl⟩ | ⟨r', k', i', xs', u', h', hg', _⟩)
  · obtain ⟨ty, cells, h1, _, _⟩ := l.bl j b hb
    exact h.apart _ _ _ _ _ _ b ty cells hh hg h1 rfl
  · rcases l.hold h' with ⟨_, rfl⟩ | ⟨s, f, h0⟩
    · simp [Value.ownBlock] at hg'
    · obtain ⟨rfl, _⟩ := h.sep _ _ _ _ _ _ _ _ _ _ g hh h0 hg hg'
      rcases f with f | ⟨j, b, hb, _, e⟩
      · exact hk.1 _ f
      · exact hk.2 j b hb e
theorem Lends.oth (l : Lends n loc F σ a w args ys vs bs T) (h : Rel n F0 Wr w0 loc F σ a w) {b : Nat} {ty : TypeId} {cells : List (Leaf E.A × Bool)} (hb : get σ (bk b) = .blk ty cells) (hn : ∀ j : Nat, bs[j]? ≠ some (some b)) (o : Nat) :
    ¬ Lets loc w args ys vs bs (loc b) o := by
  rintro (⟨j, b', hb', e⟩ | ⟨r', k', i', xs', u', h', hg', _⟩)
  · obtain ⟨ty', cells', h1, _, _⟩ := l.bl j b' hb'
    have := h.inj _ _ _ _ _ _ hb h1 e
    subst this
    exact hn j hb'
  · rcases l.hold h' with ⟨_, rfl⟩ | ⟨s, f, h0⟩
    · simp [Value.ownBlock] at hg'
    · exact h.apart _ _ _ _ _ _ b ty cells h0 hg' hb rfl
theorem Lends.wr (l : Lends n loc F σ a w args ys vs bs T) (h : Rel n F0 Wr w0 loc F σ a w) {g o : Nat} (hl : Lets loc w args ys vs bs g o) : F g o ∧ (g < w0.heap.size → Wr g o) := by
  rcases hl with ⟨j, b, hb, rfl⟩ | ⟨r', k', i', xs', u', h', hg', hlo⟩
  · obtain ⟨ty, cells, h1, _, _⟩ := l.bl j b hb
    exact (h.blk b ty cells h1).choose_spec.2.2 o
  · rcases l.hold h' with ⟨_, rfl⟩ | ⟨s, f, h0⟩
    · simp [Value.ownBlock] at hg'
    · exact (h.own _ _ _ _ _ h0).2 g hg' o hlo
structure Backs (n : Nat) (σ σ2 : St E.A) (rs : List (TV E.A)) (vs' : List (RV E.A)) (bs : List (Option Nat)) (T : Nat → Nat → Prop) : Prop where
  slot : ∀ t, t < n → (get σ2 t = get σ t ∧ ∀ j, ¬ T j t) ∨ ∃ x : TV E.A, get σ t = .v x ∧ get σ2 t = .v x.un
  hi : ∀ t, n ≤ t → t < 1000000 → get σ2 t = .any
  pas : ∀ j b : Nat, bs[j]? = some (some b) → ∃ (ty : TypeId) (cells : List (Leaf E.A × Bool)), get σ2 (bk b) = .blk ty cells ∧ get (begin_ rs vs') (bk j) = .blk ty cells ∧ (RV.blk ty cells).names = []
  oth : ∀ b : Nat, (∀ j : Nat, bs[j]? ≠ some (some b)) → get σ2 (bk b) = get σ (bk b)
variable {σ2 : St E.A} {rs : List (TV E.A)} {vs' : List (RV E.A)} {m : Nat} {loc2 : Nat → Nat} {F' : Nat → Nat → Prop} {tmps : Array Value} {w' : World}
theorem Backs.live (bb : Backs n σ σ2 rs vs' bs T) {b : Nat} (h : ∃ ty cells, get σ (bk b) = .blk ty cells) : ∃ ty cells, get σ2 (bk b) = .blk ty cells := by
  by_cases hb : ∃ j : Nat, bs[j]? = some (some b)
  · obtain ⟨j, hb⟩ := hb
    obtain ⟨ty, cells, h1, _⟩ := bb.pas j b hb
    exact ⟨ty, cells, h1⟩
  · rw [bb.oth b (fun j hj => hb ⟨j, hj⟩)]; exact h
theorem Backs.was (l : Lends n loc F σ a w args ys vs bs T) (bb : Backs n σ σ2 rs vs' bs T) {b : Nat} (h : ∃ ty cells, get σ2 (bk b) = .blk ty cells) : ∃ ty cells, get σ (bk b) = .blk ty cells := by
  by_cases hb : ∃ j : Nat, bs[j]? = some (some b)
  · obtain ⟨j, hb⟩ := hb
    obtain ⟨ty, cells, h1, _⟩ := l.bl j b hb
    exact ⟨ty, cells, h1⟩
  · rw [← bb.oth b (fun j hj => hb ⟨j, hj⟩)]; exact h
theorem Lends.lt (l : Lends n loc F σ a w args ys vs bs T) {j b : Nat} (h : bs[j]? = some (some b)) : j < args.size := by
  obtain ⟨ty, cells, _, h2, _⟩ := l.bl j b h
  rw [← l.vl]; exact (List.getElem?_eq_some_iff.1 h2).1
theorem Lends.blkn (l : Lends n loc F σ a w args ys vs bs T) (h : Rel n F0 Wr w0 loc F σ a w) (k : Keep (Lets loc w args ys vs bs) w w') {b : Nat} {ty : TypeId} {cells : List (Leaf E.A × Bool)} (hb : get σ (bk b) = .blk ty cells) (hn : ∀ j : Nat, bs[j]? ≠ some (some b)) :
    w'.heap[loc b]? = w.heap[loc b]? := by
  obtain ⟨cs, h1, _, _⟩ := h.blk b ty cells hb
  exact k.same (Array.getElem?_eq_some_iff.1 h1).1 (l.oth h hb hn)
theorem Lends.holds (l : Lends n loc F σ a w args ys vs bs T) (h : Rel n F0 Wr w0 loc F σ a w) (bb : Backs n σ σ2 rs vs' bs T)
    (h' : Rel m F (Lets loc w args ys vs bs) ⟨w, args.size, lent loc bs⟩ loc2 F' (begin_ rs vs') ⟨tmps, []⟩ w') {r k i : Nat} {xs : List (E.A i)} {u : Value} (hh : Hold loc n σ2 a w' r k i xs u) :
    (Hold loc n σ a w r k i xs u ∧ Kept bs T r) ∨ ∃ j b : Nat, bs[j]? = some (some b) ∧ r = bk b ∧ Hold loc2 m (begin_ rs vs') ⟨tmps, []⟩ w' (bk j) k i xs u := by
  have hns : ∀ t, t < n → ∀ j b : Nat, bs[j]? = some (some b) → t ≠ bk b := fun t ht j b _ e => bk_ne_slot h.n_le ht e.symm
  cases hh with
  | slot t i xs ht hg =>
    rcases bb.slot r ht with ⟨e, hT⟩ | ⟨x, h1, h2⟩
    · rw [e] at hg; exact .inl ⟨.slot r i xs ht hg, hT, hns r ht⟩
    · rw [h2] at hg; injection hg with hg
      cases x with
      | leaf l o => simp only [TV.un] at hg; injection hg with _ hg; cases hg
      | agg ls => cases hg
  | tup t k i xs ts us u ht hg hk hv hu =>
    rcases bb.slot r ht with ⟨e, hT⟩ | ⟨x, h1, h2⟩
    · rw [e] at hg; exact .inl ⟨.tup r k i xs ts us u ht hg hk hv hu, hT, hns r ht⟩
    · rw [h2] at hg; cases hg
  | blk b k i xs ty cells u hg hk hu =>
    by_cases hb : ∃ j : Nat, bs[j]? = some (some b)
    · obtain ⟨j, hb⟩ := hb
      obtain ⟨ty', cells', h1, h2, _⟩ := bb.pas j b hb
      rw [h1] at hg; injection hg with e1 e2; subst e1; subst e2
      refine .inr ⟨j, b, hb, rfl, .blk j k i xs ty' cells' u h2 hk ?_⟩
      have := h'.pin j (l.lt hb)
      rw [this]; show w'.cell? ⟨lent loc bs j, k, none⟩ = some u
      rw [lent_some hb]; exact hu
    · have hb' : ∀ j : Nat, bs[j]? ≠ some (some b) := fun j hj => hb ⟨j, hj⟩
      rw [bb.oth b hb'] at hg
      refine .inl ⟨.blk b k i xs ty cells u hg hk ?_, fun j hT => bk_ne_slot h.n_le (l.tn _ _ hT) rfl, fun j c hc e => by obtain rfl := bk_inj e; exact hb' j hc⟩
      simpa [World.cell?, l.blkn h h'.keep hg hb'] using hu
theorem Lends.newgo (l : Lends n loc F σ a w args ys vs bs T) (h : Rel n F0 Wr w0 loc F σ a w)
    (h' : Rel m F (Lets loc w args ys vs bs) ⟨w, args.size, lent loc bs⟩ loc2 F' (begin_ rs vs') ⟨tmps, []⟩ w') {r k i : Nat} {xs : List (E.A i)} {u : Value} {g : Nat} (hh : Hold loc2 m (begin_ rs vs') ⟨tmps, []⟩ w' r k i xs u) (hg : u.ownBlock = some g) :
    w.heap.size ≤ g ∨ ∃ o, Lets loc w args ys vs bs g o := by
  by_cases hlt : g < w.heap.size
  · exact .inr ⟨_, ((h'.own _ _ _ _ _ hh).2 g hg _ (Nat.le_refl _)).2 hlt⟩
  · exact .inl (by omega)
theorem Rel.back (h : Rel n F0 Wr w0 loc F σ a w) (l : Lends n loc F σ a w args ys vs bs T) (bb : Backs n σ σ2 rs vs' bs T)
    (h' : Rel m F (Lets loc w args ys vs bs) ⟨w, args.size, lent loc bs⟩ loc2 F' (begin_ rs vs') ⟨tmps, []⟩ w') : Rel n F0 Wr w0 loc F' σ2 a w' := by
  have hsz : w.heap.size ≤ w'.heap.size := h'.keep.size
  have h0sz : w0.heap.size ≤ w.heap.size := h.keep.size
  have hmv : Mv F w F' w' := by
    intro g o u hf hc
    have hnl : ¬ Lets loc w args ys vs bs g o := fun hl => hf (l.wr h hl).1
    exact ⟨h'.keep.cell hnl hc, fun hf' => hf (h'.old g o (World.block_lt_of_cell? w ⟨g, o, none⟩ hc) hf')⟩
  have hlt : ∀ {r k i xs u g}, Hold loc n σ a w r k i xs u → u.ownBlock = some g → g < w.heap.size := by
    intro r k i xs u g hh hg
    obtain ⟨⟨us, ho⟩, _⟩ := h.own _ _ _ _ _ hh
    exact (ho.lt _ hg).2
  have hblt : ∀ {b ty cells}, get σ (bk b) = .blk ty cells → loc b < w.heap.size := by
    intro b ty cells hb
    obtain ⟨cs, h1, _, _⟩ := h.blk b ty cells hb
    exact (Array.getElem?_eq_some_iff.1 h1).1
  have hpl : ∀ {j b : Nat}, bs[j]? = some (some b) → loc2 j = loc b := fun hb => (h'.pin _ (l.lt hb)).trans (lent_some hb)
  refine ⟨h.size, h.n_le, h.defers, bb.hi, fun t ht => ?_, fun b ty cells hb => ?_, fun b b' ty cells ty' cells' h1 h2 e => ?_, fun r hr b hb => ?_, fun r k i xs u hh => ?_, fun r k i xs u r' k' i' xs' u' g h1 h2 e1 e2 => ?_, fun r k i xs u g b ty cells h1 e hb => ?_,
    h.keep.trans h'.keep (fun g o hg hl => (l.wr h hl).2 hg), h'.dom, fun g o hg hf => h.old g o hg (h'.old g o (Nat.lt_of_lt_of_le hg h0sz) hf), fun g o hg hf hn => h'.still g o (Nat.lt_of_lt_of_le hg h0sz) (h.still g o hg hf hn) (fun hl => hn ((l.wr h hl).2 hg)), h.pin⟩
  · rcases bb.slot t ht with ⟨e, _⟩ | ⟨x, h1, h2⟩
    · rw [e]; exact RVR_mv hmv (fun _ _ => rfl) (h.slot t ht)
    · rw [h2]; have := RVR_mv (loc' := loc) hmv (fun _ _ => rfl) (h.slot t ht); rw [h1] at this; exact TVR_un this
  · by_cases hp : ∃ j : Nat, bs[j]? = some (some b)
    · obtain ⟨j, hp⟩ := hp
      obtain ⟨ty', cells', g1, g2, g3⟩ := bb.pas j b hp
      rw [g1] at hb; injection hb with e1 e2; subst e1; subst e2
      obtain ⟨cs, k1, k2, k3⟩ := h'.blk j _ _ g2
      rw [hpl hp] at k1 k2 k3
      obtain ⟨ty0, cells0, c1, _, _⟩ := l.bl j b hp
      refine ⟨cs, k1, k2.mono_mem (fun x hx v hv => CV_mv Mv.refl (fun b' hb' => ?_) hv), fun o => ⟨(k3 o).1, ((h.blk b ty0 cells0 c1).choose_spec.2.2 o).2⟩⟩
      obtain ⟨p, hp', rfl⟩ := List.mem_map.1 hx
      have : b' ∈ (RV.blk ty' cells').names := List.mem_filterMap.2 ⟨p, hp', hb'⟩
      rw [g3] at this; cases this
    · have hp' : ∀ j : Nat, bs[j]? ≠ some (some b) := fun j hj => hp ⟨j, hj⟩
      rw [bb.oth b hp'] at hb
      obtain ⟨cs, k1, k2, k3⟩ := h.blk b ty cells hb
      refine ⟨cs, (l.blkn h h'.keep hb hp').trans k1, k2.mono (fun _ _ hv => CV_mv hmv (fun _ _ => rfl) hv), fun o => ⟨h'.still _ o (hblt hb) (k3 o).1 (l.oth h hb hp' o), (k3 o).2⟩⟩
  · obtain ⟨_, _, g1⟩ := Backs.was l bb ⟨_, _, h1⟩
    obtain ⟨_, _, g2⟩ := Backs.was l bb ⟨_, _, h2⟩
    exact h.inj _ _ _ _ _ _ g1 g2 e
  · refine bb.live ?_
    by_cases hrn : r < n
    · rcases bb.slot r hrn with ⟨e, _⟩ | ⟨x, h1, h2⟩
      · rw [e] at hb; exact h.live r hr b hb
      · rw [h2] at hb; refine h.live r hr b ?_; rw [h1]; cases x <;> exact hb
    · have hr' : 1000000 ≤ r := hr.resolve_left hrn
      obtain ⟨c, rfl⟩ : ∃ c, r = bk c := ⟨r - 1000000, by unfold bk; omega⟩
      by_cases hp : ∃ j : Nat, bs[j]? = some (some c)
      · obtain ⟨j, hp⟩ := hp
        obtain ⟨ty', cells', g1, g2, g3⟩ := bb.pas j c hp
        rw [g1, g3] at hb; cases hb
      · rw [bb.oth c (fun j hj => hp ⟨j, hj⟩)] at hb
        exact h.live _ hr b hb
  · rcases l.holds h bb h' hh with ⟨h0, hk⟩ | ⟨j, b, hb, rfl, h0⟩
    · obtain ⟨⟨us, ho⟩, ht⟩ := h.own _ _ _ _ _ h0
      refine ⟨⟨us, ho.1, ?_⟩, fun g hg o hlo => ⟨h'.still g o (hlt h0 hg) (ht g hg o hlo).1 (l.old h h0 hk hg o), (ht g hg o hlo).2⟩⟩
      rcases ho.2 with hn | ⟨g, cap, cur, rfl, hb, hg, rest⟩
      · exact .inl hn
      · exact .inr ⟨g, cap, cur, rfl, hb, (h'.keep.same (Array.getElem?_eq_some_iff.1 hg).1 (l.old h h0 hk rfl)).trans hg, rest⟩
    · obtain ⟨ho, ht⟩ := h'.own _ _ _ _ _ h0
      exact ⟨ho, fun g hg o hlo => ⟨(ht g hg o hlo).1, fun hlt => (l.wr h ((ht g hg o hlo).2 (Nat.lt_of_lt_of_le hlt h0sz))).2 hlt⟩⟩
  · rcases l.holds h bb h' h1 with ⟨p1, k1⟩ | ⟨j1, b1, hb1, rfl, p1⟩ <;> rcases l.holds h bb h' h2 with ⟨p2, k2⟩ | ⟨j2, b2, hb2, rfl, p2⟩
    · exact h.sep _ _ _ _ _ _ _ _ _ _ g p1 p2 e1 e2
    · rcases l.newgo h h' p2 e2 with c | ⟨o, c⟩
      · have := hlt p1 e1; omega
      · exact absurd c (l.old h p1 k1 e1 o)
    · rcases l.newgo h h' p1 e1 with c | ⟨o, c⟩
      · have := hlt p2 e2; omega
      · exact absurd c (l.old h p2 k2 e2 o)
    · obtain ⟨e, ek⟩ := h'.sep _ _ _ _ _ _ _ _ _ _ g p1 p2 e1 e2
      obtain rfl := bk_inj e
      rw [hb1] at hb2; injection hb2 with hb2; injection hb2 with hb2
      exact ⟨by rw [hb2], ek⟩
  · obtain ⟨ty0, cells0, hb0⟩ := Backs.was l bb ⟨_, _, hb⟩
    rcases l.holds h bb h' h1 with ⟨p1, k1⟩ | ⟨j1, b1, hb1, rfl, p1⟩
    · exact h.apart _ _ _ _ _ g b _ _ p1 e hb0
    · by_cases hp : ∃ j : Nat, bs[j]? = some (some b)
      · obtain ⟨j, hp⟩ := hp
        obtain ⟨ty', cells', g1, g2, g3⟩ := bb.pas j b hp
        rw [← hpl hp]
        exact h'.apart _ _ _ _ _ g j _ _ p1 e g2
      · intro ee
        subst ee
        rcases l.newgo h h' p1 e with c | ⟨o, c⟩
        · have := hblt hb0; omega
        · exact l.oth h hb0 (fun j hj => hp ⟨j, hj⟩) o c
end
end Go.Rf
end
section
set_option linter.unusedSimpArgs false
set_option linter.unusedVariables false
namespace Go.Rf
open Go.RowKit
variable {E : Env} {P : Program}
section
variable {n : Nat} {F0 Wr : Nat → Nat → Prop} {w0 : Base} {loc : Nat → Nat} {F : Nat → Nat → Prop} {σ : St E.A} {a : Act} {w : World} {Q : Exit → Act → World → Prop}
variable {o : Oper} {t : Tree (Upd E)} {u : Upd E} {ctx : Ctx E}
theorem plain_names {x : TV E.A} (h : x.plain = true) : x.names = [] := by
  unfold TV.plain at h; split at h
  · assumption
  · cases h
theorem plain_namesR {x : RV E.A} (h : x.plain = true) : x.names = [] := by
  unfold RV.plain at h; split at h
  · assumption
  · cases h
theorem lend_at (own : List Nat) : ∀ (xs : List (TV E.A)) (j0 j : Nat), (lend own j0 xs)[j]? = (xs[j]?).map (fun x => if own.any (Nat.beq (j0 + j)) then x else x.un)
  | [], j0, j => by simp [lend]
  | x :: xs, j0, 0 => by simp [lend]
  | x :: xs, j0, j + 1 => by
    simp only [lend, List.getElem?_cons_succ]
    rw [lend_at own xs (j0 + 1) j, show j0 + 1 + j = j0 + (j + 1) by omega]
theorem lend_len (own : List Nat) : ∀ (xs : List (TV E.A)) (j0 : Nat), (lend own j0 xs).length = xs.length
  | [], _ => rfl
  | x :: xs, j0 => by simp [lend, lend_len own xs]
theorem any_beq {bs : List (Option Nat)} {b : Nat} (h : bs.any (isB b) = false) (j : Nat) : bs[j]? ≠ some (some b) := by
  intro hj
  rw [List.any_eq_false] at h
  have := h (some b) (List.mem_of_getElem? hj)
  simp [isB] at this
theorem ptrArgs_at : ∀ {xs : List (TV E.A)} {j0 : Nat} {ys : List (TV E.A)} {bs : List (Option Nat)}, ptrArgs j0 xs = some (ys, bs) →
    ys.length = xs.length ∧ bs.length = xs.length ∧ (∀ (j : Nat) (x : TV E.A), xs[j]? = some x → (∃ b o, x = .leaf ⟨.ptr, some (b, 0)⟩ o ∧ ys[j]? = some (.leaf ⟨.ptr, some (j0 + j, 0)⟩ false) ∧ bs[j]? = some (some b)) ∨ (ys[j]? = some x ∧ bs[j]? = some none ∧ x.names = [])) ∧
    ∀ j j' b : Nat, bs[j]? = some (some b) → bs[j']? = some (some b) → j = j'
  | [], j0, ys, bs, h => by
    simp only [ptrArgs, Option.some.injEq, Prod.mk.injEq] at h
    obtain ⟨rfl, rfl⟩ := h
    simp
  | x :: xs, j0, ys, bs, h => by
    simp only [ptrArgs] at h
    split at h
    · cases h
    · rename_i ys' bs' h1
      obtain ⟨l1, l2, l3, l4⟩ := ptrArgs_at h1
      split at h
      · rename_i b o ow
        cases hc : (Nat.beq o 0 && !(bs'.any (isB b))) with
        | false => rw [hc] at h; cases h
        | true =>
          rw [hc] at h
          simp only [cond_true, Option.some.injEq, Prod.mk.injEq] at h
          obtain ⟨rfl, rfl⟩ := h
          simp only [Bool.and_eq_true, Bool.not_eq_true'] at hc
          obtain ⟨hc1, hc2⟩ := hc
          obtain rfl : o = 0 := Nat.eq_of_beq_eq_true hc1
          have hne := any_beq hc2
          refine ⟨by simp [l1], by simp [l2], fun j x hx => ?_, fun j j' c h2 h3 => ?_⟩
          · cases j with
            | zero => simp at hx; subst hx; exact .inl ⟨b, ow, rfl, rfl, rfl⟩
            | succ j =>
              rcases l3 j x (by simpa using hx) with ⟨b', o', e1, e2, e3⟩ | ⟨e1, e2, e3⟩
              · exact .inl ⟨b', o', e1, by simpa [show j0 + 1 + j = j0 + (j + 1) by omega] using e2, by simpa using e3⟩
              · exact .inr ⟨by simpa using e1, by simpa using e2, e3⟩
          · cases j <;> cases j'
            · rfl
            · simp at h2; subst h2; exact absurd (by simpa using h3) (hne _)
            · simp at h3; subst h3; exact absurd (by simpa using h2) (hne _)
            · rename_i p q; rw [l4 p q c (by simpa using h2) (by simpa using h3)]
      · rename_i hnp
        cases hc : x.plain with
        | false => rw [hc] at h; cases h
        | true =>
          rw [hc] at h
          simp only [cond_true, Option.some.injEq, Prod.mk.injEq] at h
          obtain ⟨rfl, rfl⟩ := h
          refine ⟨by simp [l1], by simp [l2], fun j y hx => ?_, fun j j' c h2 h3 => ?_⟩
          · cases j with
            | zero => simp at hx; subst hx; exact .inr ⟨rfl, rfl, plain_names hc⟩
            | succ j =>
              rcases l3 j y (by simpa using hx) with ⟨b', o', e1, e2, e3⟩ | ⟨e1, e2, e3⟩
              · exact .inl ⟨b', o', e1, by simpa [show j0 + 1 + j = j0 + (j + 1) by omega] using e2, by simpa using e3⟩
              · exact .inr ⟨by simpa using e1, by simpa using e2, e3⟩
          · cases j <;> cases j'
            · rfl
            · simp at h2
            · simp at h3
            · rename_i p q; rw [l4 p q c (by simpa using h2) (by simpa using h3)]
def lentV (σ : St E.A) : Option Nat → RV E.A
  | some b => get σ (bk b)
  | none => .any
theorem rdB_ok {α : Type} : ∀ {bs : List (Option Nat)} {k : List (RV E.A) → Rd E.A α} {t : α}, (rdB bs k).run σ = some t → (k (bs.map (lentV σ))).run σ = some t
  | [], k, t, h => h
  | some b :: bs, k, t, h => by
    simp only [rdB, Rd.run] at h
    have := rdB_ok h
    simpa [lentV] using this
  | none :: bs, k, t, h => by
    simp only [rdB] at h
    have := rdB_ok h
    simpa [lentV] using this
theorem coArgs_at {tt : TT} : ∀ {ts : List TypeId} {xs ys : List (TV E.A)}, coArgs tt ts xs = some ys → ys.length = xs.length ∧ ∀ (j : Nat) (y : TV E.A), ys[j]? = some y → ∃ ty x, xs[j]? = some x ∧ coTV ty x = some y
  | [], [], ys, h => by simp [coArgs] at h; subst h; simp
  | [], _ :: _, ys, h => by simp [coArgs] at h
  | _ :: _, [], ys, h => by simp [coArgs] at h
  | t :: ts, x :: xs, ys, h => by
    simp only [coArgs] at h
    split at h
    · rename_i y ys' h1 h2
      injection h with h; subst h
      obtain ⟨l1, l2⟩ := coArgs_at h2
      refine ⟨by simp [l1], fun j z hz => ?_⟩
      cases j with
      | zero =>
        simp at hz; subst hz
        obtain ⟨ty, _, hc⟩ := Option.bind_eq_some_iff.1 h1
        exact ⟨ty, x, rfl, hc⟩
      | succ j => exact l2 j z (by simpa using hz)
    · cases h
/-- An argument's row is taken from a slot. -/
def Taken (own : List Nat) (j0 : Nat) (os : List Operand) (xs : List (TV E.A)) (j t : Nat) : Prop := own.any (Nat.beq (j0 + j)) = true ∧ os[j]? = some (.tmp t) ∧ ∃ l, xs[j]? = some (.leaf l true)
theorem given_cons {own : List Nat} {j0 : Nat} {o : Operand} {os : List Operand} {x : TV E.A} {xs : List (TV E.A)} :
    (∃ t l, o = .tmp t ∧ x = .leaf l true ∧ own.any (Nat.beq j0) = true ∧ given own j0 (o :: os) (x :: xs) = (t, .v (.leaf l false)) :: given own (j0 + 1) os xs) ∨
    ((∀ t, ¬ Taken own j0 (o :: os) (x :: xs) 0 t) ∧ given own j0 (o :: os) (x :: xs) = given own (j0 + 1) os xs) := by
  have hno : ∀ (h : ¬ ∃ t l, o = .tmp t ∧ x = .leaf l true), (∀ t, ¬ Taken own j0 (o :: os) (x :: xs) 0 t) := by
    rintro h t ⟨_, h1, l, h2⟩
    simp at h1 h2
    exact h ⟨t, l, h1, h2⟩
  simp only [given]
  split
  · rename_i t l
    by_cases hc : own.any (Nat.beq j0) = true
    · exact .inl ⟨t, l, rfl, rfl, hc, by rw [if_pos hc]⟩
    · refine .inr ⟨fun t' h => hc (by simpa using h.1), by rw [if_neg hc]⟩
  · rename_i hne
    exact .inr ⟨hno (fun ⟨t, l, e1, e2⟩ => hne t l e1 e2), rfl⟩
theorem given_get (own : List Nat) : ∀ (os : List Operand) (xs : List (TV E.A)) (j0 : Nat) (σ : St E.A) (r : Nat),
    (get (given own j0 os xs ++ σ) r = get σ r ∧ ∀ j, ¬ Taken own j0 os xs j r) ∨ ∃ j l, Taken own j0 os xs j r ∧ xs[j]? = some (.leaf l true) ∧ get (given own j0 os xs ++ σ) r = .v (.leaf l false)
  | [], xs, j0, σ, r => .inl ⟨by simp [given], fun j h => by simpa using h.2.1⟩
  | _ :: _, [], j0, σ, r => .inl ⟨by simp [given], fun j h => by obtain ⟨_, _, l, h⟩ := h; simp at h⟩
  | o :: os, x :: xs, j0, σ, r => by
    have hs : ∀ j t, Taken own j0 (o :: os) (x :: xs) (j + 1) t ↔ Taken own (j0 + 1) os xs j t := by
      intro j t; simp only [Taken, List.getElem?_cons_succ, show j0 + 1 + j = j0 + (j + 1) by omega]
    rcases given_cons (own := own) (j0 := j0) (o := o) (os := os) (x := x) (xs := xs) with ⟨t, l, e1, e2, hc, e⟩ | ⟨hn, e⟩
    · rw [e]
      simp only [List.cons_append, get_cons]
      by_cases h : t = r
      · subst h; rw [if_pos rfl]; exact .inr ⟨0, l, ⟨by simpa using hc, by simp [e1], l, by simp [e2]⟩, by simp [e2], rfl⟩
      · rw [if_neg h]
        rcases given_get own os xs (j0 + 1) σ r with ⟨g1, g2⟩ | ⟨j, l', g1, g2, g3⟩
        · refine .inl ⟨g1, fun j hj => ?_⟩
          cases j with
          | zero => obtain ⟨_, h2, _⟩ := hj; simp [e1] at h2; exact h h2
          | succ j => exact g2 j ((hs j r).1 hj)
        · exact .inr ⟨j + 1, l', (hs j r).2 g1, by simpa using g2, g3⟩
    · rw [e]
      rcases given_get own os xs (j0 + 1) σ r with ⟨g1, g2⟩ | ⟨j, l', g1, g2, g3⟩
      · refine .inl ⟨g1, fun j hj => ?_⟩
        cases j with
        | zero => exact hn r hj
        | succ j => exact g2 j ((hs j r).1 hj)
      · exact .inr ⟨j + 1, l', (hs j r).2 g1, by simpa using g2, g3⟩
theorem given_mem (own : List Nat) : ∀ (os : List Operand) (xs : List (TV E.A)) (j0 j t : Nat), Taken own j0 os xs j t → t ∈ (given own j0 os xs).map (·.1)
  | [], xs, j0, j, t, h => by simpa using h.2.1
  | _ :: _, [], j0, j, t, h => by obtain ⟨_, _, l, h⟩ := h; simp at h
  | o :: os, x :: xs, j0, j, t, h => by
    rcases given_cons (own := own) (j0 := j0) (o := o) (os := os) (x := x) (xs := xs) with ⟨t', l, e1, e2, hc, e⟩ | ⟨hn, e⟩
    · rw [e]
      cases j with
      | zero => obtain ⟨_, h2, _⟩ := h; simp [e1] at h2; simp [h2]
      | succ j =>
        have : Taken own (j0 + 1) os xs j t := by simpa only [Taken, List.getElem?_cons_succ, show j0 + 1 + j = j0 + (j + 1) by omega] using h
        exact List.mem_cons_of_mem _ (given_mem own os xs (j0 + 1) j t this)
    · rw [e]
      cases j with
      | zero => exact absurd h (hn t)
      | succ j =>
        have : Taken own (j0 + 1) os xs j t := by simpa only [Taken, List.getElem?_cons_succ, show j0 + 1 + j = j0 + (j + 1) by omega] using h
        exact given_mem own os xs (j0 + 1) j t this
theorem given_nd (own : List Nat) : ∀ (os : List Operand) (xs : List (TV E.A)) (j0 : Nat), nodupB ((given own j0 os xs).map (·.1)) = true → ∀ j j' t, Taken own j0 os xs j t → Taken own j0 os xs j' t → j = j'
  | [], xs, j0, _, j, j', t, h, _ => by simpa using h.2.1
  | _ :: _, [], j0, _, j, j', t, h, _ => by obtain ⟨_, _, l, h⟩ := h; simp at h
  | o :: os, x :: xs, j0, hn, j, j', t, h, h' => by
    have hs : ∀ j t, Taken own j0 (o :: os) (x :: xs) (j + 1) t → Taken own (j0 + 1) os xs j t := by
      intro j t; simp only [Taken, List.getElem?_cons_succ, show j0 + 1 + j = j0 + (j + 1) by omega]; exact id
    rcases given_cons (own := own) (j0 := j0) (o := o) (os := os) (x := x) (xs := xs) with ⟨t', l, e1, e2, hc, e⟩ | ⟨hn', e⟩
    · rw [e] at hn
      simp only [List.map_cons, nodupB, Bool.and_eq_true, Bool.not_eq_true'] at hn
      obtain ⟨hn1, hn2⟩ := hn
      have key : ∀ j, ¬ Taken own (j0 + 1) os xs j t' := by
        intro j hj
        have := given_mem own os xs (j0 + 1) j t' hj
        rw [List.any_eq_false] at hn1
        exact hn1 t' this (by simp)
      cases j <;> cases j'
      · rfl
      · have : t' = t := by obtain ⟨_, h2, _⟩ := h; simpa [e1] using h2
        subst this; exact absurd (hs _ _ h') (key _)
      · have : t' = t := by obtain ⟨_, h2, _⟩ := h'; simpa [e1] using h2
        subst this; exact absurd (hs _ _ h) (key _)
      · rw [given_nd own os xs (j0 + 1) hn2 _ _ t (hs _ _ h) (hs _ _ h')]
    · rw [e] at hn
      cases j <;> cases j'
      · rfl
      · exact absurd h (hn' t)
      · exact absurd h' (hn' t)
      · rw [given_nd own os xs (j0 + 1) hn _ _ t (hs _ _ h) (hs _ _ h')]
theorem backB_get : ∀ (bs : List (Option Nat)) (vs : List (RV E.A)), backOk bs vs = true → (∀ j j' b : Nat, bs[j]? = some (some b) → bs[j']? = some (some b) → j = j') → ∀ (σ : St E.A) (r : Nat),
    (∀ j b : Nat, bs[j]? = some (some b) → r = bk b → get (backB bs vs ++ σ) r = vs.getD j .any ∧ ∃ ty cells, vs.getD j .any = .blk ty cells ∧ (RV.blk ty cells).names = []) ∧
    ((∀ j b : Nat, bs[j]? = some (some b) → r ≠ bk b) → get (backB bs vs ++ σ) r = get σ r)
  | [], [], _, _, σ, r => ⟨fun j b h => by simp at h, fun _ => by simp [backB]⟩
  | [], _ :: _, h, _, _, _ => by simp [backOk] at h
  | none :: bs, [], h, _, _, _ => by simp [backOk] at h
  | some _ :: bs, [], h, _, _, _ => by simp [backOk] at h
  | none :: bs, v :: vs, h, hd, σ, r => by
    simp only [backOk] at h
    obtain ⟨g1, g2⟩ := backB_get bs vs h (fun j j' b h1 h2 => by have := hd (j + 1) (j' + 1) b (by simpa using h1) (by simpa using h2); omega) σ r
    simp only [backB]
    refine ⟨fun j b hb e => ?_, fun hn => g2 (fun j b hb => hn (j + 1) b (by simpa using hb))⟩
    cases j with
    | zero => simp at hb
    | succ j => simpa using g1 j b (by simpa using hb) e
  | some c :: bs, v :: vs, h, hd, σ, r => by
    cases v with
    | blk ty cells =>
      simp only [backOk, Bool.and_eq_true] at h
      obtain ⟨g1, g2⟩ := backB_get bs vs h.2 (fun j j' b h1 h2 => by have := hd (j + 1) (j' + 1) b (by simpa using h1) (by simpa using h2); omega) σ r
      simp only [backB, List.cons_append, get_cons]
      refine ⟨fun j b hb e => ?_, fun hn => ?_⟩
      · cases j with
        | zero => simp at hb; subst hb; rw [if_pos e.symm]; exact ⟨by simp, ty, cells, by simp, plain_namesR h.1⟩
        | succ j =>
          have hne : bk c ≠ r := by
            intro e2; rw [e] at e2
            obtain rfl := bk_inj e2
            have := hd 0 (j + 1) c (by simp) hb
            omega
          rw [if_neg hne]
          simpa using g1 j b (by simpa using hb) e
      · have h0 := hn 0 c (by simp)
        rw [if_neg (Ne.symm h0)]
        exact g2 (fun j b hb => hn (j + 1) b (by simpa using hb))
    | _ => simp [backOk] at h
end
end Go.Rf
end
section
set_option linter.unusedSimpArgs false
set_option linter.unusedVariables false
namespace Go.Rf
open Go.RowKit
variable {E : Env} {P : Program}
/-- A function is called; it lands, and what then holds. -/
def Lands (P : Program) (f : FuncId) (args : Array Value) (w : World) (R : Value → World → Prop) : Prop :=
  ∀ (o : Oper) (a : Act) (next : Act → World → Prop) (Q : Exit → Act → World → Prop), (∀ v w', R v w' → next (a.put o.dst v) w') → o.upon P a next Q ((callFunc f args).run P w)
def outs (rs : List (TV E.A)) (tmps : Array Value) (v : Value) : Prop := (∃ r, rs = [r] ∧ tmps = #[v]) ∨ (rs.length ≠ 1 ∧ v = .tuple tmps)
def CameBack (F Wr : Nat → Nat → Prop) (w0 : Base) (r : List (TV E.A) × List (RV E.A)) (v : Value) (w' : World) : Prop :=
  ∃ loc F' tmps, outs r.1 tmps v ∧ Rel r.1.length F Wr w0 loc F' (begin_ r.1 r.2) ⟨tmps, []⟩ w'
/-- What is said of a function holds. -/
def SpecOk (P : Program) (f : FuncId) (s : Spec E) : Prop :=
  ∀ (xs : List (TV E.A)) (vs : List (RV E.A)) (r : List (TV E.A) × List (RV E.A)) (args : Array Value) (w : World) (loc : Nat → Nat) (F Wr : Nat → Nat → Prop), xs.length = args.size → vs.length = args.size →
    Rel args.size F Wr ⟨w, args.size, loc⟩ loc F (begin_ xs vs) ⟨args, []⟩ w → (s.run xs vs).reach r → Lands P f args w (CameBack F Wr ⟨w, args.size, loc⟩ r)
section
variable {n : Nat} {F0 Wr : Nat → Nat → Prop} {w0 : Base} {loc : Nat → Nat} {F : Nat → Nat → Prop} {σ : St E.A} {a : Act} {w : World} {Q : Exit → Act → World → Prop}
variable {o : Oper} {t : Tree (Upd E)} {u : Upd E} {ctx : Ctx E}
variable {args : Array Value} {ys : List (TV E.A)} {vs : List (RV E.A)} {bs : List (Option Nat)} {T : Nat → Nat → Prop}
variable {σ2 : St E.A} {rs : List (TV E.A)} {vs' : List (RV E.A)} {m : Nat} {loc2 : Nat → Nat} {F' : Nat → Nat → Prop} {tmps : Array Value} {w' : World}
/-- What came back is put into a slot. -/
theorem Rel.took (h : Rel n F0 Wr w0 loc F σ a w) (l : Lends n loc F σ a w args ys vs bs T) (bb : Backs n σ σ2 rs vs' bs T)
    (h' : Rel m F (Lets loc w args ys vs bs) ⟨w, args.size, lent loc bs⟩ loc2 F' (begin_ rs vs') ⟨tmps, []⟩ w') (hm : m = rs.length) (hrs : ∀ r ∈ rs, r.names = [])
    {d : Nat} (hd : d < n) {x : RV E.A} {v : Value} (hx : (∃ r, rs = [r] ∧ tmps = #[v] ∧ x = .v r) ∨ (v = .tuple tmps ∧ x = .tup false rs)) :
    Rel n F0 Wr w0 loc F' ((d, x) :: σ2) (a.put (some d) v) w' := by
  subst hm
  have h2 := h.back l bb h'
  have h0sz : w0.heap.size ≤ w.heap.size := h.keep.size
  have hts : tmps.size = rs.length := h'.size
  have hat : ∀ (k : Nat) (r : TV E.A), rs[k]? = some r → TVR loc F' w' r (tmps.getD k undef) := by
    intro k r hk
    have hkl := (List.getElem?_eq_some_iff.1 hk).1
    have := h'.slot k hkl
    rw [get_begin_slot hk] at this
    exact TVR_mv Mv.refl (fun b hb => by rw [hrs r (List.mem_of_getElem? hk)] at hb; cases hb) this
  have hxh : ∀ {k i : Nat} {xs : List (E.A i)} {u : Value}, XHold x v k i xs u → ∃ s, s = k ∧ Hold loc2 rs.length (begin_ rs vs') ⟨tmps, []⟩ w' s 0 i xs u := by
    intro k i xs u hh
    rcases hh with ⟨rfl, rfl, rfl⟩ | ⟨_, ts, us, rfl, h1, h2, h3⟩
    · rcases hx with ⟨r, rfl, rfl, e⟩ | ⟨_, e⟩
      · injection e with e; subst e
        have := Hold.slot (loc := loc2) (n := [TV.leaf (⟨.sl i, xs⟩ : Leaf E.A) true].length) (σ := begin_ [TV.leaf (⟨.sl i, xs⟩ : Leaf E.A) true] vs') (a := ⟨#[u], []⟩) (w := w') 0 i xs (by simp) (get_begin_slot rfl)
        exact ⟨0, rfl, this⟩
      · cases e
    · rcases hx with ⟨r, rfl, rfl, e⟩ | ⟨e1, e⟩
      · cases e
      · injection e with e0 e; subst e0; subst e
        subst e1; injection h2 with h2; subst h2
        have hkl := (List.getElem?_eq_some_iff.1 h1).1
        have := Hold.slot (loc := loc2) (n := ts.length) (σ := begin_ ts vs') (a := ⟨tmps, []⟩) (w := w') k i xs hkl (get_begin_slot h1)
        have e3 : tmps.getD k undef = u := by rw [Array.getD_eq_getD_getElem?, h3]; rfl
        simp only [e3] at this
        exact ⟨k, rfl, this⟩
  refine h2.putX hd ?_ ?_ (fun k i xs u hh => ?_) (fun k i xs u k' i' xs' u' g h1 h3 e1 e2 => ?_) (fun k i xs u r k' i' xs' u' g h1 h3 hr e1 e2 => ?_) (fun k i xs u g b ty cells h1 e hb => ?_)
  · rcases hx with ⟨r, rfl, rfl, rfl⟩ | ⟨rfl, rfl⟩
    · exact hat 0 r rfl
    · refine ⟨tmps, rfl, ?_⟩
      have key : ∀ (rs : List (TV E.A)) (l : List Value), l.length = rs.length → (∀ (k : Nat) (r : TV E.A), rs[k]? = some r → TVR loc F' w' r (l.getD k undef)) → All2 (TVR loc F' w') rs l := by
        intro rs
        induction rs with
        | nil => intro l hl _; cases l with
          | nil => trivial
          | cons _ _ => simp at hl
        | cons r rs ih => intro l hl hk; cases l with
          | nil => simp at hl
          | cons v l => exact ⟨by simpa using hk 0 r rfl, ih l (by simpa using hl) (fun k r hr => by simpa using hk (k + 1) r (by simpa using hr))⟩
      exact key rs tmps.toList (by simpa using hts) (fun k r hk => by simpa [Array.getD_eq_getD_getElem?, List.getD_eq_getElem?_getD] using hat k r hk)
  · intro b hb
    exfalso
    rcases hx with ⟨r, rfl, rfl, rfl⟩ | ⟨rfl, rfl⟩
    · have := hrs r (by simp); rw [show (RV.v r).names = r.names from rfl, this] at hb; cases hb
    · obtain ⟨r, hr, hb⟩ := List.mem_flatMap.1 hb
      rw [hrs r hr] at hb; cases hb
  · obtain ⟨s, _, h0⟩ := hxh hh
    obtain ⟨ho, ht⟩ := h'.own _ _ _ _ _ h0
    exact ⟨ho, fun g hg o hlo => ⟨(ht g hg o hlo).1, fun hlt => (l.wr h ((ht g hg o hlo).2 (Nat.lt_of_lt_of_le hlt h0sz))).2 hlt⟩⟩
  · obtain ⟨s, rfl, p1⟩ := hxh h1
    obtain ⟨s', rfl, p2⟩ := hxh h3
    exact (h'.sep _ _ _ _ _ _ _ _ _ _ g p1 p2 e1 e2).1
  · obtain ⟨s, rfl, p1⟩ := hxh h1
    rcases l.holds h bb h' h3 with ⟨p2, k2⟩ | ⟨j2, b2, hb2, rfl, p2⟩
    · rcases l.newgo h h' p1 e1 with c | ⟨o, c⟩
      · obtain ⟨⟨us, ho⟩, _⟩ := h.own _ _ _ _ _ p2
        have := (ho.lt _ e2).2; omega
      · exact l.old h p2 k2 e2 o c
    · have := (h'.sep _ _ _ _ _ _ _ _ _ _ g p1 p2 e1 e2).1
      have hlt : s < rs.length := by
        cases p1 with
        | slot t i xs ht hg => exact ht
        | tup t k i xs ts us u ht hg hk hv hu => exact ht
        | blk b k i xs ty cells u hg hk hu =>
          have := (l.lt hb2)
          exfalso
          rcases hx with ⟨r, rfl, rfl, rfl⟩ | ⟨rfl, rfl⟩
          · rcases h1 with ⟨_, e, _⟩ | ⟨_, _, _, e, _⟩
            · unfold bk at e; omega
            · cases e
          · rcases h1 with ⟨e, _⟩ | ⟨_, ts, us, e, hk', _⟩
            · cases e
            · injection e with e0 e; subst e0; subst e
              exact bk_ne_slot h'.n_le (List.getElem?_eq_some_iff.1 hk').1 rfl
      exact bk_ne_slot h'.n_le hlt this.symm
  · obtain ⟨s, rfl, p1⟩ := hxh h1
    obtain ⟨ty0, cells0, hb0⟩ := Backs.was l bb ⟨_, _, hb⟩
    by_cases hp : ∃ j : Nat, bs[j]? = some (some b)
    · obtain ⟨j, hp⟩ := hp
      obtain ⟨ty', cells', g1, g2, g3⟩ := bb.pas j b hp
      rw [← (h'.pin _ (l.lt hp)).trans (lent_some hp)]
      exact h'.apart _ _ _ _ _ g j _ _ p1 e g2
    · intro ee
      subst ee
      rcases l.newgo h h' p1 e with c | ⟨o, c⟩
      · obtain ⟨cs, k1, _, _⟩ := h.blk b _ _ hb0
        have := (Array.getElem?_eq_some_iff.1 k1).1; omega
      · exact l.oth h hb0 (fun j hj => hp ⟨j, hj⟩) o c
end
end Go.Rf
end
section
set_option linter.unusedSimpArgs false
set_option linter.unusedVariables false
namespace Go.Rf
open Go.RowKit
variable {E : Env} {P : Program}
section
variable {n : Nat} {F0 Wr : Nat → Nat → Prop} {w0 : Base} {loc : Nat → Nat} {F : Nat → Nat → Prop} {σ : St E.A} {a : Act} {w : World} {Q : Exit → Act → World → Prop}
variable {o : Oper} {t : Tree (Upd E)} {u : Upd E} {ctx : Ctx E}
theorem call_ok (h : Rel n F0 Wr w0 loc F σ a w) {s : Spec E} {c : Call} {f : FuncId} (hs : SpecOk P f s) (he : (execOp a.eval o).run P w = (callFunc f (c.args.map a.eval)).run P w)
    (hr : (sCall ctx o.dst s c).run σ = some t) (hu : t.reach u) (hn : ∀ d, o.dst = some d → d < n) : o.wp P a w (Goal n F0 Wr w0 (u ++ σ)) Q := by
  unfold sCall at hr
  obtain ⟨rvs, k1, hr⟩ := rdL_ok h hr
  split at hr
  · simp [Rd.run] at hr
  rename_i xs0 hx0
  have k2 := tvs_ok hx0 k1
  split at hr
  · simp [Rd.run] at hr
  rename_i xs hxs
  obtain ⟨cl, cat⟩ := coArgs_at hxs
  split at hr
  · simp [Rd.run] at hr
  rename_i ys bs hp
  obtain ⟨pl1, pl2, pat, pnd⟩ := ptrArgs_at hp
  cases hc : (nodupB ((given s.own 0 c.args.toList xs0).map (·.1)) && Nat.ble c.args.size 1000000) with
  | false => rw [hc] at hr; simp [Rd.run] at hr
  | true =>
  rw [hc] at hr
  simp only [Bool.not_true, cond_false] at hr
  simp only [Bool.and_eq_true] at hc
  obtain ⟨hc1, hc2⟩ := hc
  have hr := rdB_ok hr
  cases hv : (bs.map (lentV σ)).all RV.plain with
  | false => rw [hv] at hr; simp [Rd.run] at hr
  | true =>
  rw [hv] at hr
  simp only [Bool.not_true, cond_false, Rd.run, Option.some.injEq] at hr
  subst hr
  obtain ⟨⟨rs, vs'⟩, hreach, hu⟩ := Tree.reach_bind.1 hu
  cases hb : (backOk bs vs' && rs.all TV.plain) with
  | false => rw [hb] at hu; simp [Tree.reach] at hu
  | true =>
  rw [hb] at hu
  simp only [Bool.not_true, cond_false, Tree.reach] at hu
  simp only [Bool.and_eq_true] at hb
  obtain ⟨hb1, hb2⟩ := hb
  have hrs : ∀ r ∈ rs, r.names = [] := fun r hr => plain_names (List.all_eq_true.1 hb2 r hr)
  have hlen : xs0.length = c.args.size := by rw [k2.len]; simp
  have hyl : ys.length = c.args.size := by rw [pl1, lend_len, cl, hlen]
  have hbl : bs.length = c.args.size := by rw [pl2, lend_len, cl, hlen]
  have hle : c.args.size ≤ 1000000 := Nat.le_of_ble_eq_true hc2
  have hev : ∀ j, (c.args.map a.eval).getD j undef = ((c.args.toList[j]?).map a.eval).getD undef := by
    intro j; simp [Array.getD_eq_getD_getElem?]
  -- what an argument is
  have harg : ∀ (j : Nat) (y : TV E.A), ys[j]? = some y → ∃ x0 x ty op, xs0[j]? = some x0 ∧ c.args.toList[j]? = some op ∧ coTV ty x0 = some x ∧ TVR loc F w x0 (a.eval op) ∧ Live σ (.v x0) ∧ (∀ s, op = .tmp s → (get σ s).tv = some x0 ∧ s < n) ∧ ((∀ s, op ≠ .tmp s) → (RV.v x0).free) ∧
      ((∃ b o, (if s.own.any (Nat.beq (0 + j)) then x else x.un) = .leaf ⟨.ptr, some (b, 0)⟩ o ∧ y = .leaf ⟨.ptr, some (j, 0)⟩ false ∧ bs[j]? = some (some b)) ∨ (y = (if s.own.any (Nat.beq (0 + j)) then x else x.un) ∧ bs[j]? = some none ∧ y.names = [])) := by
    intro j y hy
    have hj : j < xs.length := by rw [cl, hlen, ← hyl]; exact (List.getElem?_eq_some_iff.1 hy).1
    obtain ⟨ty, x0, hx0', hco⟩ := cat j _ (List.getElem?_eq_getElem hj)
    obtain ⟨op, hop, q1, q2, q3, q4⟩ := k2.get hx0'
    refine ⟨x0, xs[j], ty, op, hx0', hop, hco, q1, q2, q3, q4, ?_⟩
    have hl : (lend s.own 0 xs)[j]? = some (if s.own.any (Nat.beq (0 + j)) then xs[j] else xs[j].un) := by rw [lend_at, List.getElem?_eq_getElem hj]; rfl
    rcases pat j _ hl with ⟨b, ow, e1, e2, e3⟩ | ⟨e1, e2, e3⟩
    · rw [hy] at e2; injection e2 with e2
      exact .inl ⟨b, ow, e1, by simpa using e2, e3⟩
    · rw [hy] at e1; injection e1 with e1
      exact .inr ⟨e1, e2, by rw [e1]; exact e3⟩
  have hnm : ∀ (x : TV E.A) (j : Nat), (if s.own.any (Nat.beq (0 + j)) then x else x.un).names = x.names := by
    intro x j; split
    · rfl
    · exact un_names x
  have htv : ∀ (x : TV E.A) (j : Nat) (v : Value), TVR loc F w x v → TVR loc F w (if s.own.any (Nat.beq (0 + j)) then x else x.un) v := by
    intro x j v hv; split
    · exact hv
    · exact TVR_un hv
  have hpass : ∀ (j b : Nat), bs[j]? = some (some b) → ∃ ty cells, get σ (bk b) = .blk ty cells ∧ (bs.map (lentV σ))[j]? = some (.blk ty cells) ∧ (RV.blk ty cells).names = [] := by
    intro j b hbj
    have hj : j < ys.length := by rw [hyl, ← hbl]; exact (List.getElem?_eq_some_iff.1 hbj).1
    obtain ⟨x0, x, ty, op, g1, g2, g3, g4, g5, g6, g7, g8⟩ := harg j _ (List.getElem?_eq_getElem hj)
    rcases g8 with ⟨b', ow, e1, e2, e3⟩ | ⟨_, e2, _⟩
    · rw [hbj] at e3; injection e3 with e3; injection e3 with e3; subst e3
      have hbn : b ∈ x.names := by rw [← hnm x j, e1]; simp [TV.names, Leaf.names]
      obtain ⟨ty', cells, hbb⟩ := g5 b ((coTV_ok g3 g4).2.1 b hbn)
      have hvj : (bs.map (lentV σ))[j]? = some (.blk ty' cells) := by simp [hbj, lentV, hbb]
      exact ⟨ty', cells, hbb, hvj, plain_namesR (List.all_eq_true.1 hv _ (List.mem_of_getElem? hvj))⟩
    · rw [hbj] at e2; injection e2 with e2; cases e2
  have hT : ∀ j t, Taken s.own 0 c.args.toList xs0 j t → t < n ∧ ∃ l, xs0[j]? = some (.leaf l true) ∧ get σ t = .v (.leaf l true) := by
    rintro j t ⟨_, h2, l, h3⟩
    obtain ⟨op, hop, q1, q2, q3, q4⟩ := k2.get h3
    rw [h2] at hop; injection hop with hop; subst hop
    obtain ⟨q5, q6⟩ := q3 t rfl
    refine ⟨q6, l, h3, ?_⟩
    cases hg : get σ t with
    | v x => rw [hg] at q5; simp [RV.tv] at q5; rw [q5]
    | kn b => rw [hg] at q5; simp [RV.tv] at q5
    | _ => rw [hg] at q5; simp [RV.tv] at q5
  have l : Lends n loc F σ a w (c.args.map a.eval) ys (bs.map (lentV σ)) bs (Taken s.own 0 c.args.toList xs0) := by
    refine ⟨by simpa using hyl, by simpa using hbl, by simpa using hle, fun j y hy => ?_, fun j y b' hy hb' => ?_, hpass, fun j hj => ?_, pnd, fun j i rs hy => ?_, given_nd _ _ _ _ hc1, fun j t ht => (hT j t ht).1⟩
    · obtain ⟨x0, x, ty, op, g1, g2, g3, g4, g5, g6, g7, g8⟩ := harg j y hy
      rw [hev, g2]
      have hx := htv x j _ (coTV_ok g3 g4).1
      rcases g8 with ⟨b, ow, e1, e2, e3⟩ | ⟨e1, e2, e3⟩
      · rw [e1] at hx
        subst e2
        have hx : a.eval op = .pointer (some ⟨loc b, 0, none⟩) := hx
        show a.eval op = .pointer (some ⟨lent loc bs j, 0, none⟩)
        rw [lent_some e3]; exact hx
      · rw [← e1] at hx
        exact TVR_mv Mv.refl (fun b hb => by rw [e3] at hb; cases hb) hx
    · obtain ⟨x0, x, ty, op, g1, g2, g3, g4, g5, g6, g7, g8⟩ := harg j y hy
      rcases g8 with ⟨b, ow, e1, e2, e3⟩ | ⟨e1, e2, e3⟩
      · subst e2
        simp [TV.names, Leaf.names] at hb'
        exact ⟨hb', b, e3⟩
      · rw [e3] at hb'; cases hb'
    · rw [List.getD_eq_getElem?_getD, List.getElem?_map]
      cases hbj : bs[j]? with
      | none => rfl
      | some ob => cases ob with
        | none => rfl
        | some b => exact absurd hbj (hj b)
    · obtain ⟨x0, x, ty, op, g1, g2, g3, g4, g5, g6, g7, g8⟩ := harg j _ hy
      rw [hev, g2]
      rcases g8 with ⟨b, ow, e1, e2, e3⟩ | ⟨e1, e2, e3⟩
      · injection e2 with e2 e4; cases e4
      · have ho : s.own.any (Nat.beq (0 + j)) = true ∧ x = .leaf ⟨.sl i, rs⟩ true := by
          by_cases hc : s.own.any (Nat.beq (0 + j)) = true
          · rw [if_pos hc] at e1; exact ⟨hc, e1.symm⟩
          · rw [if_neg hc] at e1
            cases x with
            | leaf l o => simp only [TV.un] at e1; injection e1 with _ e1; cases e1
            | agg ls => cases e1
        obtain ⟨ho1, rfl⟩ := ho
        rcases coTV_own g3 g4 with e | ⟨e4, e5, _⟩
        · subst e
          have hop : ∃ t, op = .tmp t := by
            cases op with
            | tmp t => exact ⟨t, rfl⟩
            | _ => have := g7 (by intro s e; cases e); cases this
          obtain ⟨t, rfl⟩ := hop
          have hTk : Taken s.own 0 c.args.toList xs0 j t := ⟨ho1, g2, _, g1⟩
          obtain ⟨q1, l', q2, q3⟩ := hT j t hTk
          rw [g1] at q2; injection q2 with q2; injection q2 with q2 _; subst q2
          exact .inr ⟨t, hTk, q1, q3, rfl⟩
        · exact .inl ⟨e4, by simpa using e5⟩
  have hin := l.enter h
  have hland := hs ys (bs.map (lentV σ)) (rs, vs') (c.args.map a.eval) w (lent loc bs) F _ l.yl l.vl hin hreach
  unfold Oper.wp
  rw [he]
  refine hland o a _ Q fun v w' hcb => ?_
  obtain ⟨loc2, F', tmps, ho, hrel⟩ := hcb
  have hrl : rs.length ≤ 1000000 := hrel.n_le
  have hgx := given_get s.own c.args.toList xs0 0
  have bb : Backs n σ (backB bs vs' ++ (given s.own 0 c.args.toList xs0 ++ σ)) rs vs' bs (Taken s.own 0 c.args.toList xs0) := by
    have hbg := backB_get bs vs' hb1 pnd (given s.own 0 c.args.toList xs0 ++ σ)
    have hnb : ∀ t, t < 1000000 → ∀ j b : Nat, bs[j]? = some (some b) → t ≠ bk b := fun t ht j b _ e => by unfold bk at e; omega
    refine ⟨fun t ht => ?_, fun t h1 h2 => ?_, fun j b hjb => ?_, fun b hnp => ?_⟩
    · rw [(hbg t).2 (hnb t (Nat.lt_of_lt_of_le ht h.n_le))]
      rcases hgx σ t with ⟨e, hno⟩ | ⟨j, l', e1, e2, e3⟩
      · exact .inl ⟨e, hno⟩
      · obtain ⟨q1, l2, q2, q3⟩ := hT j t e1
        rw [e2] at q2; injection q2 with q2; injection q2 with q2 _; subst q2
        exact .inr ⟨_, q3, e3⟩
    · rw [(hbg t).2 (hnb t h2)]
      rcases hgx σ t with ⟨e, hno⟩ | ⟨j, l', e1, e2, e3⟩
      · rw [e]; exact h.hi t h1 h2
      · have := (hT j t e1).1; omega
    · obtain ⟨e1, ty, cells, e2, e3⟩ := (hbg (bk b)).1 j b hjb rfl
      exact ⟨ty, cells, e1.trans e2, by rw [get_begin_bk hrl]; exact e2, e3⟩
    · rw [(hbg (bk b)).2 (fun j c hc e => hnp j (by obtain rfl := bk_inj e; exact hc))]
      rcases hgx σ (bk b) with ⟨e, hno⟩ | ⟨j, l', e1, e2, e3⟩
      · exact e
      · exact absurd rfl (bk_ne_slot h.n_le (hT j _ e1).1)
  subst hu
  cases hd : o.dst with
  | none =>
    simp only [Act.put, List.nil_append]
    refine ⟨loc, F', ?_⟩
    rw [List.append_assoc]
    exact h.back l bb hrel
  | some d =>
    have hdn := hn d hd
    rcases ho with ⟨r, e1, e2⟩ | ⟨e1, e2⟩
    · dsimp only at e1; subst e1
      refine ⟨loc, F', ?_⟩
      rw [List.append_assoc, List.append_assoc]
      exact h.took l bb hrel rfl hrs hdn (.inl ⟨r, rfl, e2, rfl⟩)
    · refine ⟨loc, F', ?_⟩
      dsimp only
      split
      · exact absurd rfl e1
      · rw [List.append_assoc, List.append_assoc]
        exact h.took l bb hrel rfl hrs hdn (.inr ⟨e2, rfl⟩)
end
end Go.Rf
end
section
set_option linter.unusedSimpArgs false
set_option linter.unusedVariables false
namespace Go.Rf
open Go.RowKit
variable {E : Env} {P : Program}
section
variable {n : Nat} {F0 Wr : Nat → Nat → Prop} {w0 : Base} {loc : Nat → Nat} {F : Nat → Nat → Prop} {σ : St E.A} {a : Act} {w : World} {Q : Exit → Act → World → Prop}
variable {o : Oper} {t : Tree (Upd E)} {u : Upd E} {ctx : Ctx E}
/-- What a slot owns goes to the first cell of a struct. -/
theorem Rel.toAgg (h : Rel n F0 Wr w0 loc F σ a w) {d s i : Nat} {xs : List (E.A i)} (hd : d < n) (hs : s < n) (hsd : s ≠ d) (hg0 : get σ s = .v (.leaf ⟨.sl i, xs⟩ true)) {lr : List LT} {zr : List Value}
    (hz : All2 (LV (E := E) loc F w) (lr.map (zeroLeaf E)) zr) (hzn : ∀ l ∈ lr.map (zeroLeaf E), l.names = none) :
    Rel n F0 Wr w0 loc F ((d, .tup true (.leaf ⟨.sl i, xs⟩ true :: lr.map fun l => .leaf (zeroLeaf E l) false)) :: (s, .v (.leaf ⟨.sl i, xs⟩ false)) :: σ) (a.put (some d) (.agg ⟨a.tmps.getD s undef :: zr⟩)) w := by
  have hds : d < a.tmps.size := by rw [h.size]; exact hd
  have hg : ∀ r, get ((d, RV.tup true (.leaf ⟨.sl i, xs⟩ true :: lr.map fun l => .leaf (zeroLeaf E l) false)) :: (s, .v (.leaf ⟨.sl i, xs⟩ false)) :: σ) r =
      if d = r then RV.tup true (.leaf ⟨.sl i, xs⟩ true :: lr.map fun l => .leaf (zeroLeaf E l) false) else if s = r then .v (.leaf ⟨.sl i, xs⟩ false) else get σ r := fun r => by rw [get_cons, get_cons]
  have hb : ∀ b, get ((d, RV.tup true (.leaf ⟨.sl i, xs⟩ true :: lr.map fun l => .leaf (zeroLeaf E l) false)) :: (s, .v (.leaf ⟨.sl i, xs⟩ false)) :: σ) (bk b) = get σ (bk b) := fun b => by
    rw [hg, if_neg (fun e => bk_ne_slot h.n_le hd e.symm), if_neg (fun e => bk_ne_slot h.n_le hs e.symm)]
  have hsl := h.slot s hs
  rw [hg0] at hsl
  have hnames : ∀ b, b ∈ (RV.tup true ((.leaf ⟨.sl i, xs⟩ true : TV E.A) :: lr.map fun l => .leaf (zeroLeaf E l) false)).names → False := by
    intro b hb
    obtain ⟨x, hx, hxb⟩ := List.mem_flatMap.1 hb
    rcases List.mem_cons.1 hx with rfl | hx
    · simp [TV.names, Leaf.names] at hxb
    · obtain ⟨l, hl, rfl⟩ := List.mem_map.1 hx
      have := hzn (zeroLeaf E l) (List.mem_map.2 ⟨l, hl, rfl⟩)
      simp [TV.names, this] at hxb
  refine h.move (M := fun r k x y => (r = d ∧ x = s ∧ k = y) ∨ (r = x ∧ k = y ∧ r ≠ d ∧ r ≠ s)) (by simp [Act.put, h.size]) h.defers (fun t ht ht' => by rw [hg, if_neg (by omega), if_neg (by omega)]; exact h.hi t ht ht') (fun t ht => ?_) (fun b ty cells hc => ?_) (fun r hr b hbn => ?_)
    (fun r k r' k' x y m m' => ?_) (fun r k i' xs' u hh => .inr ?_) (fun _ _ _ _ _ _ _ _ => rfl) h.keep (Nat.le_refl _)
  · rw [hg, put_get a d t _ hds]
    by_cases e : d = t
    · rw [if_pos e, if_pos e]
      refine ⟨⟨a.tmps.getD s undef :: zr⟩, rfl, hsl, ?_⟩
      have h2 : All2 (fun l v => TVR loc F w (.leaf l false) v) (lr.map (zeroLeaf E)) zr := hz
      have := All2.cast_left (T := TVR loc F w) (f := fun l : Leaf E.A => TV.leaf l false) h2
      rw [List.map_map] at this
      exact this
    · rw [if_neg e, if_neg e]
      by_cases e2 : s = t
      · rw [if_pos e2]; subst e2; exact hsl
      · rw [if_neg e2]; exact h.slot t ht
  · rw [hb] at hc
    obtain ⟨cs, h1, h2, _⟩ := h.blk b ty cells hc
    exact ⟨cells, hc, cs, h1, h2⟩
  · rw [hb]
    rw [hg] at hbn
    by_cases e : d = r
    · rw [if_pos e] at hbn
      exact (hnames b hbn).elim
    · rw [if_neg e] at hbn
      by_cases e2 : s = r
      · rw [if_pos e2] at hbn
        simp [RV.names, TV.names, Leaf.names] at hbn
      · rw [if_neg e2] at hbn; exact h.live r hr b hbn
  · rcases m with ⟨rfl, rfl, rfl⟩ | ⟨rfl, rfl, m1, m2⟩ <;> rcases m' with ⟨rfl, e, rfl⟩ | ⟨rfl, rfl, m3, m4⟩
    · exact ⟨rfl, rfl⟩
    · exact absurd rfl m4
    · exact absurd e m2
    · exact ⟨rfl, rfl⟩
  · cases hh with
    | slot t i' xs' ht hgs =>
      rw [hg] at hgs
      by_cases e : d = r
      · rw [if_pos e] at hgs; cases hgs
      · rw [if_neg e] at hgs
        by_cases e2 : s = r
        · rw [if_pos e2] at hgs; cases hgs
        · rw [if_neg e2] at hgs
          rw [put_get a d r _ hds, if_neg e]
          exact ⟨r, 0, .inr ⟨rfl, rfl, Ne.symm e, Ne.symm e2⟩, .slot r i' xs' ht hgs⟩
    | tup t k i' xs' ts' us u ht hgs hk hv hu =>
      rw [hg] at hgs
      rw [put_get a d r _ hds] at hv
      by_cases e : d = r
      · rw [if_pos e] at hgs hv; injection hgs with hgs1 hgs2; subst hgs1; subst hgs2
        injection hv with hv; subst hv
        cases k with
        | zero =>
          simp only [List.getElem?_cons_zero, Option.some.injEq] at hk
          injection hk with hk _
          injection hk with e1 e2
          injection e1 with e1
          subst e1
          obtain rfl := eq_of_heq e2
          have : u = a.tmps.getD s undef := by simpa using hu.symm
          subst this
          exact ⟨s, 0, .inl ⟨e.symm, rfl, rfl⟩, .slot s _ _ hs hg0⟩
        | succ k =>
          simp only [List.getElem?_cons_succ, List.getElem?_map] at hk
          obtain ⟨l, _, hl⟩ := Option.map_eq_some_iff.1 hk
          injection hl with _ hl; cases hl
      · rw [if_neg e] at hgs hv
        by_cases e2 : s = r
        · rw [if_pos e2] at hgs; cases hgs
        · rw [if_neg e2] at hgs
          exact ⟨r, k, .inr ⟨rfl, rfl, Ne.symm e, Ne.symm e2⟩, .tup r k i' xs' ts' us u ht hgs hk hv hu⟩
    | blk b k i' xs' ty cells u hgs hk hu =>
      rw [hb] at hgs
      exact ⟨bk b, k, .inr ⟨rfl, rfl, fun e => bk_ne_slot h.n_le hd e, fun e => bk_ne_slot h.n_le hs e⟩, .blk b k i' xs' ty cells u hgs hk hu⟩
theorem buildO_ok (h : Rel n F0 Wr w0 loc F σ a w) (htt : TTOk P E ctx.tt) {s : TypeId} {parts : Array (Nat × Operand)} {d s0 i : Nat} {xs : List (E.A i)} (ho : o.op = .build s parts) (hp : parts.toList = [(0, .tmp s0)]) (hd : o.dst = some d) (hs0 : s0 < n)
    (hg : get σ s0 = .v (.leaf ⟨.sl i, xs⟩ true)) (hr : (sBuildO ctx d s s0 i xs).run σ = some t) (hu : t.reach u) (hn : ∀ d, o.dst = some d → d < n) :
    o.wp P a w (Goal n F0 Wr w0 (u ++ σ)) Q := by
  unfold sBuildO at hr
  split at hr
  · rename_i i' lr ft fr hty
    obtain ⟨flds, info, zs, hud, hi, hsz, hz, hzo, hfs, hnz, _⟩ := htt _ _ hty
    split at hr
    · rename_i i'' hft
      cases hc : (Nat.beq i i' && Nat.beq i i'' && noSelf (lr.map (zeroCell E)) && !(Nat.beq s0 d)) with
      | false => rw [hc] at hr; simp [Rd.run] at hr
      | true =>
        rw [hc] at hr
        simp only [cond_true, Rd.run, Option.some.injEq] at hr
        subst hr; simp only [Tree.reach] at hu; subst hu
        simp only [Bool.and_eq_true, Bool.not_eq_true'] at hc
        obtain ⟨⟨⟨c1, c2⟩, c3⟩, c4⟩ := hc
        obtain rfl := Nat.eq_of_beq_eq_true c1
        obtain rfl := Nat.eq_of_beq_eq_true c2
        have hne : s0 ≠ d := fun e => by subst e; simp at c4
        have hsl := h.slot s0 hs0
        rw [hg] at hsl
        obtain ⟨k0, hsl0⟩ : ∃ k, VR E F w k ⟨.sl i, xs⟩ (a.tmps.getD s0 undef) := hsl
        have hone := VR_one hsl0
        obtain ⟨z0, zr, hzs, hz0, hzr⟩ : ∃ z0 zr, zs.toList = z0 :: zr ∧ zeroOk (.sl i) z0 ∧ All2 zeroOk lr zr := by
          cases hl : zs.toList with
          | nil => rw [hl] at hzo; exact hzo.elim
          | cons z0 zr => rw [hl] at hzo; exact ⟨z0, zr, rfl, hzo.1, hzo.2⟩
        obtain ⟨z1, z2⟩ := zero_leaves (E := E) (loc := loc) (F := F) (w := w) c3 hzr
        obtain ⟨places, hp1, hp2⟩ := places_ok (P := P) flds.toList (fun f hf => ⟨_, (hnz f hf).choose_spec.1⟩)
        obtain ⟨fld, hfld, hoff, htyp⟩ : ∃ fld, flds.toList[0]? = some fld ∧ fld.offset = 0 ∧ fld.type = ft := by
          cases hl : flds.toList with
          | nil => rw [hl] at hfs; cases hfs
          | cons f l =>
            rw [hl] at hfs
            simp only [List.map_cons, List.cons.injEq, Prod.mk.injEq] at hfs
            exact ⟨f, rfl, hfs.1.1, hfs.1.2⟩
        obtain ⟨info2, hi2, hpl⟩ := hp2 0 fld hfld
        have hsz2 : info2.size = 1 := by
          obtain ⟨_, info', _, _, _, hi', hs', _⟩ := htt _ _ hft
          rw [htyp, hi'] at hi2; injection hi2 with hi2; subst hi2; exact hs'
        rw [hoff, hsz2] at hpl
        have hcells : (a.tmps.getD s0 undef).cells = #[a.tmps.getD s0 undef] := by
          revert hone
          cases a.tmps.getD s0 undef <;> simp [Value.cells, Value.oneCell']
        refine wp_val (v := .agg ⟨a.tmps.getD s0 undef :: zr⟩) (w' := w) (ex_build ho (run_build w s _ _ ?_)) ?_
        · unfold Program.built
          simp only [hi, hud, hz, hp1]
          rw [parts_zip, hp]
          show (Instr.fill _ zs [(0, a.tmps.getD s0 undef)]) = _
          have hzsz : 1 ≤ zs.size := by
            have := congrArg List.length hzs
            simp at this; omega
          have hpl2 : places.toArray[0]? = some (0, 1) := by simpa using hpl
          simp only [Instr.fill, hpl2]
          have hsz1 : (a.tmps.getD s0 undef).cells.size = 1 := by rw [hcells]; rfl
          rw [if_neg (by rw [hsz1]; intro hx; simp only [Bool.or_eq_true, decide_eq_true_eq] at hx; rcases hx with hx | hx; exact hx rfl; omega), fill_one _ _ _ (by rw [hsz1]; omega), hcells, hzs]
          simp [splice]
        · rw [hd]
          exact ⟨loc, F, h.toAgg (hn d hd) hs0 hne hg z1 z2⟩
    · simp [Rd.run] at hr
  · simp [Rd.run] at hr
theorem buildAny_ok (h : Rel n F0 Wr w0 loc F σ a w) (htt : TTOk P E ctx.tt) {ops : List Oper} {s : TypeId} {parts : Array (Nat × Operand)} (ho : o.op = .build s parts) (hr : (sBuildAny ctx ops o.dst s parts).run σ = some t) (hu : t.reach u) (hn : ∀ d, o.dst = some d → d < n) :
    o.wp P a w (Goal n F0 Wr w0 (u ++ σ)) Q := by
  unfold sBuildAny at hr
  split at hr
  · rename_i s0 d hp hd
    cases hbx : boxed ops d with
    | false => rw [hbx] at hr; exact build_ok h htt ho hr hu hn
    | true =>
      rw [hbx] at hr
      simp only [cond_true] at hr
      obtain ⟨rv, g1, g2, g3, g4, g5⟩ := rdO_ok h hr
      obtain ⟨e1, e2⟩ := g4 _ rfl
      split at g3
      · rename_i i xs
        rcases e2 with e2 | e2
        · exact buildO_ok h htt ho hp hd e2 e1.symm g3 hu hn
        · cases e2
      · exact build_ok h htt ho g3 hu hn
  · exact build_ok h htt ho hr hu hn
  · exact build_ok h htt ho hr hu hn
theorem boxO_ok (h : Rel n F0 Wr w0 loc F σ a w) (hnp : w0.np = ctx.np) {ty : TypeId} {s : Nat} {ts : List (TV E.A)} (ho : o.op = .box ty (.tmp s)) (hs : s < n) (hg : get σ s = .tup true ts)
    (hr : (sBoxO ctx o.dst ty s ts).run σ = some t) (hu : t.reach u) (hn : ∀ d, o.dst = some d → d < n) : o.wp P a w (Goal n F0 Wr w0 (u ++ σ)) Q := by
  unfold sBoxO at hr
  split at hr
  case h_2 => simp [Rd.run] at hr
  rename_i d hd
  have hdn := hn d hd
  cases hc : (Nat.ble ctx.np d && !(Nat.beq s d) && ts.all isLeafB) with
  | false => rw [hc] at hr; simp [Rd.run] at hr
  | true =>
  rw [hc] at hr
  simp only [cond_true, Rd.run] at hr
  split at hr
  case h_2 => simp [Rd.run] at hr
  rename_i hfree
  simp only [Rd.run, Option.some.injEq] at hr
  subst hr; simp only [Tree.reach] at hu; subst hu
  simp only [Bool.and_eq_true, Bool.not_eq_true', List.all_eq_true] at hc
  obtain ⟨⟨c1, c2⟩, c3⟩ := hc
  have hpd : w0.np ≤ d := by rw [hnp]; exact Nat.le_of_ble_eq_true c1
  have hne : s ≠ d := fun e => by subst e; simp at c2
  have hsl := h.slot s hs
  rw [hg] at hsl
  obtain ⟨us, hv, hall⟩ := hsl
  have hv' : a.tmps.getD s undef = .agg us := hv
  -- the new variable, with nothing owned
  have hcv : All2 (CV (E := E) w.heap.size loc F w) ((ts.map fun x => ((leafOf x).1, false)).map (·.1)) us.toList := by
    rw [List.map_map]
    refine All2.cast_left ?_
    refine hall.mono_mem fun x hx v hxv => ?_
    have := c3 x hx
    cases x with
    | leaf l o => exact CV_of hxv
    | agg ls => cases this
  have hnm : ∀ p ∈ (ts.map fun x => ((leafOf x).1, false)), ∀ b', p.1.names = some b' → ∃ ty cells, get σ (bk b') = .blk ty cells := by
    intro p hp b' hb'
    obtain ⟨x, hx, rfl⟩ := List.mem_map.1 hp
    refine h.live s (.inl hs) b' ?_
    rw [hg]
    refine List.mem_flatMap.2 ⟨x, hx, ?_⟩
    cases x with
    | leaf l o => simpa [TV.names, leafOf] using hb'
    | agg ls => simp [leafOf, Leaf.names] at hb'
  obtain ⟨loc1, F1, h1⟩ := h.newBlk hdn hpd hfree hcv hnm (fun k i xs hk => by
    rw [List.getElem?_map] at hk
    obtain ⟨x, _, e⟩ := Option.map_eq_some_iff.1 hk
    injection e with _ e; cases e) (bt := ty)
  refine wp_val (v := .pointer (some ⟨w.heap.size, 0, none⟩)) (w' := w.alloc (.cells us ty)) (ex_box ho ?_) ?_
  · show (Instr.box ty (a.tmps.getD s undef)).run P w = _
    rw [hv']; rfl
  rw [hd]
  have hbkd : ∀ b, d ≠ bk b := fun b e => bk_ne_slot h.n_le hdn e.symm
  have hbks : ∀ b, s ≠ bk b := fun b e => bk_ne_slot h.n_le hs e.symm
  have hds : d < a.tmps.size := by rw [h.size]; exact hdn
  have hat : ∀ r, r ≠ d → (a.put (some d) (.pointer (some ⟨w.heap.size, 0, none⟩))).tmps.getD r undef = a.tmps.getD r undef := fun r hr => by rw [put_get a d r _ hds, if_neg (Ne.symm hr)]
  -- where it lies
  have hblk1 := h1.blk d ty (ts.map fun x => ((leafOf x).1, false)) (by rw [get_cons, if_neg (hbkd d), get_cons, if_pos rfl])
  obtain ⟨cs1, hb1, hb2, _⟩ := hblk1
  have hp1 := h1.slot d hdn
  rw [get_cons, if_pos rfl, put_get a d d _ hds, if_pos rfl] at hp1
  have hloc : loc1 d = w.heap.size := by
    have : Value.pointer (some ⟨w.heap.size, 0, none⟩) = Value.pointer (some ⟨loc1 d, 0, none⟩) := hp1
    injection this with this; injection this with this; injection this with e; exact e.symm
  have hcs1 : cs1 = us := by
    rw [hloc] at hb1
    have : (w.alloc (.cells us ty)).heap[w.heap.size]? = some (.cells us ty (0, 0)) := by simp only [World.alloc]; exact Array.getElem?_push_size
    rw [this] at hb1
    injection hb1 with hb1; injection hb1 with hb1 _ _; exact hb1.symm
  subst hcs1
  have hget : ∀ r, get ([(d, RV.v (.leaf ⟨.ptr, some (d, 0)⟩ false)), (bk d, .blk ty (ts.map leafOf)), (s, .tup true (ts.map TV.un))] ++ σ) r =
      if d = r then RV.v (.leaf ⟨.ptr, some (d, 0)⟩ false) else if bk d = r then .blk ty (ts.map leafOf) else if s = r then .tup true (ts.map TV.un) else get σ r := fun r => by
    show get ((d, _) :: (bk d, _) :: (s, _) :: σ) r = _
    rw [get_cons, get_cons, get_cons]
  have hget1 : ∀ r, get ((d, RV.v (.leaf ⟨.ptr, some (d, 0)⟩ false)) :: (bk d, RV.blk ty (ts.map fun x => ((leafOf x).1, false))) :: σ) r =
      if d = r then RV.v (.leaf ⟨.ptr, some (d, 0)⟩ false) else if bk d = r then .blk ty (ts.map fun x => ((leafOf x).1, false)) else get σ r := fun r => by rw [get_cons, get_cons]
  have hnun : ∀ x : TV E.A, x.un.names = x.names := fun x => by cases x <;> rfl
  refine ⟨loc1, F1, h1.move (M := fun r k x y => (r = bk d ∧ x = s ∧ k = y) ∨ (r = x ∧ k = y ∧ r ≠ bk d ∧ r ≠ s)) h1.size h1.defers (fun t ht ht' => ?_) (fun t ht => ?_) (fun b ty' cells hc => ?_) (fun r hr b hbn => ?_)
    (fun r k r' k' x y m m' => ?_) (fun r k i' xs' u hh => .inr ?_) (fun _ _ _ _ _ _ _ _ => rfl) h1.keep (Nat.le_refl _)⟩
  · have := h1.hi t ht ht'
    rw [hget1] at this
    have q1 : d ≠ t := fun e => absurd hdn (by rw [e]; exact Nat.not_lt.2 ht)
    have q2 : bk d ≠ t := fun e => by unfold bk at e; omega
    rw [hget, if_neg q1, if_neg q2, if_neg (by omega)]
    rw [if_neg q1, if_neg q2] at this
    exact this
  · have := h1.slot t ht
    rw [hget1] at this
    rw [hget]
    by_cases e : d = t
    · rw [if_pos e] at this ⊢; exact this
    · rw [if_neg e] at this ⊢
      have e3 : bk d ≠ t := fun e3 => bk_ne_slot h.n_le ht e3
      rw [if_neg e3] at this ⊢
      by_cases e2 : s = t
      · rw [if_pos e2]; subst e2
        rw [hg] at this
        obtain ⟨us', e4, hall'⟩ := this
        exact ⟨us', e4, All2.cast_left (hall'.mono (fun _ _ hx => TVR_un hx))⟩
      · rw [if_neg e2]; exact this
  · rw [hget, if_neg (hbkd b)] at hc
    by_cases e : bk d = bk b
    · rw [if_pos e] at hc
      obtain rfl := bk_inj e
      injection hc with e1 e2; subst e1; subst e2
      refine ⟨_, by rw [hget1, if_neg (hbkd d), if_pos rfl], cs1, hb1, ?_⟩
      have : (ts.map leafOf).map (·.1) = (ts.map fun x => ((leafOf x).1, false)).map (·.1) := by simp [List.map_map, Function.comp_def]
      rw [this]; exact hb2
    · rw [if_neg e, if_neg (hbks b)] at hc
      refine ⟨cells, by rw [hget1, if_neg (hbkd b), if_neg e]; exact hc, ?_⟩
      obtain ⟨cs2, k1, k2, _⟩ := h1.blk b ty' cells (by rw [hget1, if_neg (hbkd b), if_neg e]; exact hc)
      exact ⟨cs2, k1, k2⟩
  · have hbb : (∃ ty' cells, get ((d, RV.v (.leaf ⟨.ptr, some (d, 0)⟩ false)) :: (bk d, RV.blk ty (ts.map fun x => ((leafOf x).1, false))) :: σ) (bk b) = .blk ty' cells) → ∃ ty' cells, get ([(d, RV.v (.leaf ⟨.ptr, some (d, 0)⟩ false)), (bk d, .blk ty (ts.map leafOf)), (s, .tup true (ts.map TV.un))] ++ σ) (bk b) = .blk ty' cells := by
      rintro ⟨ty', cells, hc⟩
      rw [hget1, if_neg (hbkd b)] at hc
      rw [hget, if_neg (hbkd b)]
      by_cases e : bk d = bk b
      · rw [if_pos e]; exact ⟨_, _, rfl⟩
      · rw [if_neg e] at hc ⊢
        rw [if_neg (hbks b)]; exact ⟨_, _, hc⟩
    refine hbb (h1.live r hr b ?_)
    rw [hget1]
    rw [hget] at hbn
    by_cases e : d = r
    · rw [if_pos e] at hbn ⊢; exact hbn
    · rw [if_neg e] at hbn ⊢
      by_cases e2 : bk d = r
      · rw [if_pos e2] at hbn ⊢
        simp only [RV.names, List.filterMap_map] at hbn ⊢
        exact hbn
      · rw [if_neg e2] at hbn ⊢
        by_cases e3 : s = r
        · rw [if_pos e3] at hbn
          rw [← e3, hg]
          obtain ⟨x, hx, hxb⟩ := List.mem_flatMap.1 hbn
          obtain ⟨y, hy, rfl⟩ := List.mem_map.1 hx
          exact List.mem_flatMap.2 ⟨y, hy, by rw [← hnun]; exact hxb⟩
        · rw [if_neg e3] at hbn; exact hbn
  · rcases m with ⟨rfl, rfl, rfl⟩ | ⟨rfl, rfl, m1, m2⟩ <;> rcases m' with ⟨rfl, e, rfl⟩ | ⟨rfl, rfl, m3, m4⟩
    · exact ⟨rfl, rfl⟩
    · exact absurd rfl m4
    · exact absurd e m2
    · exact ⟨rfl, rfl⟩
  · cases hh with
    | slot t i' xs' ht hgs =>
      rw [hget] at hgs
      have e2 : bk d ≠ r := fun e => bk_ne_slot h.n_le ht e
      rw [if_neg e2] at hgs
      by_cases e : d = r
      · rw [if_pos e] at hgs; injection hgs with hgs; injection hgs with _ hgs; cases hgs
      · rw [if_neg e] at hgs
        by_cases e3 : s = r
        · rw [if_pos e3] at hgs; cases hgs
        · rw [if_neg e3] at hgs
          exact ⟨r, 0, .inr ⟨rfl, rfl, Ne.symm e2, Ne.symm e3⟩, .slot r i' xs' ht (by rw [hget1, if_neg e, if_neg e2]; exact hgs)⟩
    | tup t k i' xs' ts' us u ht hgs hk hv2 hu2 =>
      rw [hget] at hgs
      have e2 : bk d ≠ r := fun e => bk_ne_slot h.n_le ht e
      rw [if_neg e2] at hgs
      by_cases e : d = r
      · rw [if_pos e] at hgs; cases hgs
      · rw [if_neg e] at hgs
        by_cases e3 : s = r
        · rw [if_pos e3] at hgs; injection hgs with hgs1 hgs2; subst hgs1; subst hgs2
          rw [List.getElem?_map] at hk
          obtain ⟨y, _, hy⟩ := Option.map_eq_some_iff.1 hk
          cases y with
          | leaf l o => simp only [TV.un] at hy; injection hy with _ hy; cases hy
          | agg ls => cases hy
        · rw [if_neg e3] at hgs
          exact ⟨r, k, .inr ⟨rfl, rfl, Ne.symm e2, Ne.symm e3⟩, .tup r k i' xs' ts' us u ht (by rw [hget1, if_neg e, if_neg e2]; exact hgs) hk hv2 hu2⟩
    | blk b k i' xs' ty' cells u hgs hk hu2 =>
      rw [hget, if_neg (hbkd b)] at hgs
      by_cases e : bk d = bk b
      · rw [if_pos e] at hgs
        obtain rfl := bk_inj e
        injection hgs with e1 e2; subst e1; subst e2
        rw [List.getElem?_map] at hk
        obtain ⟨x, hx, hxl⟩ := Option.map_eq_some_iff.1 hk
        have hxo : x = .leaf ⟨.sl i', xs'⟩ true := by
          cases x with
          | leaf l o =>
            simp only [leafOf, Prod.mk.injEq] at hxl
            obtain ⟨rfl, rfl⟩ := hxl; rfl
          | agg ls => simp only [leafOf, Prod.mk.injEq] at hxl; cases hxl.2
        subst hxo
        have hu3 : cs1[k]? = some u := by
          simpa [World.cell?, hb1] using hu2
        exact ⟨s, k, .inl ⟨rfl, rfl, rfl⟩, .tup s k i' xs' ts cs1 u hs (by rw [hget1, if_neg (Ne.symm hne), if_neg (fun e => bk_ne_slot h.n_le hs e)]; exact hg) hx (by rw [hat s hne]; exact hv) hu3⟩
      · rw [if_neg e, if_neg (hbks b)] at hgs
        exact ⟨bk b, k, .inr ⟨rfl, rfl, fun e' => e e'.symm, fun e' => hbks b e'.symm⟩, .blk b k i' xs' ty' cells u (by rw [hget1, if_neg (hbkd b), if_neg e]; exact hgs) hk hu2⟩
theorem boxAny_ok (h : Rel n F0 Wr w0 loc F σ a w) (htt : TTOk P E ctx.tt) (hnp : w0.np = ctx.np) {s : TypeId} {x : Operand} (ho : o.op = .box s x) (hr : (sBoxAny ctx o.dst s x).run σ = some t) (hu : t.reach u) (hn : ∀ d, o.dst = some d → d < n) :
    o.wp P a w (Goal n F0 Wr w0 (u ++ σ)) Q := by
  unfold sBoxAny at hr
  obtain ⟨rv, g1, g2, g3, g4, g5⟩ := rdO_ok h hr
  split at g3
  · rename_i ts
    split at g3
    · rename_i s0
      obtain ⟨e1, e2⟩ := g4 _ rfl
      rcases e2 with e2 | e2
      · exact boxO_ok h hnp ho e2 e1.symm g3 hu hn
      · cases e2
    · simp [Rd.run] at g3
  · exact box_ok h htt hnp ho g3 hu hn
end
end Go.Rf
end
section
set_option linter.unusedSimpArgs false
set_option linter.unusedVariables false
namespace Go.Rf
open Go.RowKit
variable {E : Env} {P : Program}
structure CtxOk (P : Program) (ctx : Ctx E) : Prop where
  tt : TTOk P E ctx.tt
  sp : ∀ f s, look ctx.sp f = some s → SpecOk P f s
  dyn : ∀ f, SpecOk P f (ctx.dyn f)
section
variable {n : Nat} {F0 Wr : Nat → Nat → Prop} {w0 : Base} {loc : Nat → Nat} {F : Nat → Nat → Prop} {σ : St E.A} {a : Act} {w : World} {Q : Exit → Act → World → Prop}
variable {o : Oper} {t : Tree (Upd E)} {u : Upd E} {ctx : Ctx E}
theorem callAny_ok (h : Rel n F0 Wr w0 loc F σ a w) (hc : CtxOk P ctx) {c : Call} (ho : o.op = .call c) (hr : (sCallAny ctx o.dst c).run σ = some t) (hu : t.reach u) (hn : ∀ d, o.dst = some d → d < n) :
    o.wp P a w (Goal n F0 Wr w0 (u ++ σ)) Q := by
  unfold sCallAny at hr
  split at hr
  · rename_i b hb
    split at hr
    · exact len_ok h hc.tt ho hb hr hu hn
    · exact append_ok h hc.tt ho hb hr hu hn
    · exact minmax_ok (mx := false) h ho (by simpa using hb) hr hu hn
    · exact minmax_ok (mx := true) h ho (by simpa using hb) hr hu hn
    · simp [Rd.run] at hr
  · rename_i x hx
    obtain ⟨cal, as, ats⟩ := c
    dsimp only at hx
    subst hx
    split at hr
    · rename_i f
      split at hr
      · rename_i s hs
        exact call_ok h (hc.sp f s hs) (by
          have ef : a.eval (.func f) = .func (.func f) #[] #[] := rfl
          unfold execOp
          simp [ho, resolve, Deferred.ofValue, invoke, ef]) hr hu hn
      · simp [Rd.run] at hr
    · obtain ⟨tv, h1, h2, h3, h4, h5⟩ := rdT_ok h hr
      split at h3
      · rename_i f own
        have hv : a.eval x = .func (.func f) #[] #[] := by
          obtain ⟨k, hk⟩ := (h1 : LV loc F w (⟨.fn, some f⟩ : Leaf E.A) (a.eval x))
          cases k with
          | zero => simp [VR] at hk
          | succ k => simpa [VR] using hk
        refine call_ok h (hc.dyn f) ?_ h3 hu hn
        unfold execOp
        simp [ho, resolve, Deferred.ofValue, invoke, hv]
      · simp [Rd.run] at h3
  · simp [Rd.run] at hr
theorem step_ok (h : Rel n F0 Wr w0 loc F σ a w) (hc : CtxOk P ctx) (hnp : w0.np = ctx.np) {ops : List Oper} {g : Bool} (hr : (step ctx ops g o).run σ = some t) (hu : t.reach u) (hn : ∀ d, o.dst = some d → d < n) :
    o.wp P a w (Goal n F0 Wr w0 (u ++ σ)) Q := by
  unfold step at hr
  split at hr
  · rename_i x ho; exact move_ok h hc.tt (by unfold execOp; rw [ho]; rfl) hr hu hn
  · rename_i x ho; exact move_ok h hc.tt (by unfold execOp; rw [ho]; rfl) hr hu hn
  · rename_i ho; exact pick_ok h ho hr hu hn
  · rename_i ho; exact alloc_ok h hc.tt hnp ho hr hu hn
  · rename_i ho; exact boxAny_ok h hc.tt hnp ho hr hu hn
  · rename_i ho; exact buildAny_ok h hc.tt ho hr hu hn
  · rename_i ho; exact buildSlice_ok h hc.tt ho hr hu hn
  · rename_i ho; exact load_ok h hc.tt ho hr hu hn
  · rename_i ho
    split at hr
    · rename_i hd; exact store_ok h hc.tt ho hd hr hu
    · simp [Rd.run] at hr
  · rename_i ho; exact nilCheck_ok h ho hr hu hn
  · rename_i ho; exact bin_ok h hc.tt ho hr hu hn
  · rename_i ho; exact un_ok h ho hr hu hn
  · rename_i ho; exact convert_ok h hc.tt ho hr hu hn
  · rename_i ho
    split at hr
    · simp [Rd.run] at hr
    · rename_i ty hty hne
      exact makeIface_ok h hc.tt ho hne (fun e => by subst e; exact hty rfl) hr hu hn
    · simp [Rd.run] at hr
  · rename_i ho; exact slice_ok h hc.tt ho hr hu hn
  · rename_i ho; exact fieldAddr_ok h hc.tt ho hr hu hn
  · rename_i ho; exact field_ok h hc.tt ho hr hu hn
  · rename_i ho; exact indexAddr_ok h hc.tt ho hr hu hn
  · rename_i ho; exact index_ok h hc.tt ho hr hu hn
  · rename_i ho; exact extract_ok h ho hr hu hn
  · rename_i ho; exact callAny_ok h hc ho hr hu hn
  · simp [Rd.run] at hr
end
end Go.Rf
end
section
set_option linter.unusedSimpArgs false
set_option linter.unusedVariables false
namespace Go.Rf
open Go.RowKit
variable {E : Env} {P : Program}
section
variable {n : Nat} {F0 Wr : Nat → Nat → Prop} {w0 : Base} {loc : Nat → Nat} {F : Nat → Nat → Prop} {σ : St E.A} {a : Act} {w : World} {Q : Exit → Act → World → Prop}
variable {o : Oper} {t : Tree (Upd E)} {u : Upd E} {ctx : Ctx E}
theorem gstep_ok (h : Rel n F0 Wr w0 loc F σ a w) (hc : CtxOk P ctx) (hnp : w0.np = ctx.np) (hcn : ctx.n = n) {ops : Array Oper} {i : Nat} (ho : ops[i]? = some o) (hr : (gstep ctx ops.toList i o).run σ = some t) (hu : t.reach u) :
    wpOp P ops Q i (Goal n F0 Wr w0 (u ++ σ)) a w := by
  unfold wpOp
  rw [ho]
  unfold gstep at hr
  cases hd : dstOk ctx.n o with
  | false => rw [hd] at hr; simp [Rd.run] at hr
  | true =>
  rw [hd] at hr
  simp only [Bool.not_true, cond_false] at hr
  have hn : ∀ d, o.dst = some d → d < n := by
    intro d e
    rw [← hcn]
    simp only [dstOk, e] at hd
    exact Nat.le_of_ble_eq_true hd
  split at hr
  · rename_i hg
    have hw : Region.wanted o (yielded ops a.tmps) = true := by simp [Region.wanted, hg]
    simp only [hw, if_true]
    exact .inl (step_ok h hc hnp hr hu hn)
  · rename_i j want hg
    split at hr
    · simp [Rd.run] at hr
    · rename_i g hj
      cases hlt : Nat.blt g ctx.n with
      | false => rw [hlt] at hr; simp [Rd.run] at hr
      | true =>
      rw [hlt] at hr
      simp only [Bool.not_true, cond_false, Rd.run] at hr
      have hgn : g < n := by rw [← hcn]; exact Nat.le_of_ble_eq_true hlt
      have hsl := h.slot g hgn
      split at hr
      · rename_i b hb
        rw [hb] at hsl
        have hy : yielded ops a.tmps j = some b := by
          have hgs : g < a.tmps.size := by rw [h.size]; exact hgn
          have hv : a.tmps.getD g undef = .bool b := hsl
          have hv2 : a.tmps[g]? = some (.bool b) := by
            rw [Array.getElem?_eq_getElem hgs]
            rw [Array.getD_eq_getD_getElem?, Array.getElem?_eq_getElem hgs] at hv
            exact congrArg some hv
          unfold yielded
          rw [show (ops[j]?).bind (·.dst) = some g by simpa using hj]
          simp [hv2]
        cases hbw : (b == want) with
        | true =>
          rw [hbw] at hr
          have hw : Region.wanted o (yielded ops a.tmps) = true := by simp [Region.wanted, hg, hy]; simpa using hbw
          simp only [hw, if_true]
          exact .inl (step_ok h hc hnp hr hu hn)
        | false =>
          rw [hbw] at hr
          have hw : Region.wanted o (yielded ops a.tmps) = false := by simp [Region.wanted, hg, hy]; simpa using hbw
          simp only [hw, Bool.false_eq_true, if_false]
          simp only [cond_false, Rd.run, Option.some.injEq] at hr
          subst hr
          simp only [Tree.reach] at hu; subst hu
          cases hd2 : o.dst with
          | none => exact ⟨loc, F, h⟩
          | some d => exact ⟨loc, F, h.put (hn d hd2) (x := .und) rfl (by trivial) (by simp [RV.names])⟩
      · rename_i hb
        rw [hb] at hsl
        have hv : a.tmps.getD g undef = undef := hsl
        have hy : yielded ops a.tmps j = none := by
          have hgs : g < a.tmps.size := by rw [h.size]; exact hgn
          have hv2 : a.tmps[g]? = some undef := by
            rw [Array.getElem?_eq_getElem hgs]
            rw [Array.getD_eq_getD_getElem?, Array.getElem?_eq_getElem hgs] at hv
            exact congrArg some hv
          unfold yielded
          rw [show (ops[j]?).bind (·.dst) = some g by simpa using hj]
          simp [hv2, undef]
        have hw : Region.wanted o (yielded ops a.tmps) = false := by simp [Region.wanted, hg, hy]
        simp only [hw, Bool.false_eq_true, if_false]
        simp only [Rd.run, Option.some.injEq] at hr
        subst hr
        simp only [Tree.reach] at hu; subst hu
        cases hd2 : o.dst with
        | none => exact ⟨loc, F, h⟩
        | some d => exact ⟨loc, F, h.put (hn d hd2) (x := .und) rfl (by trivial) (by simp [RV.names])⟩
      · simp [Rd.run] at hr
/-- The text's order. -/
theorem runOps_text (hc : CtxOk P ctx) (hnp : w0.np = ctx.np) (hcn : ctx.n = n) {ops : Array Oper} {bef : List Nat} {τ : St E.A} (hq : ∀ a w, Goal n F0 Wr w0 τ a w → Q .normal a w) :
    ∀ (rest : List Oper) (i : Nat) (fs : List Foot) (σ : St E.A) (d : Bool), ops.toList.drop i = rest → (runOps ctx ops.toList d bef i rest fs σ).reach τ → ∀ a w, Goal n F0 Wr w0 σ a w → wpOps P ops Q (List.range' i rest.length) a w
  | [], i, fs, σ, d, _, hr, a, w, hg => by
    simp only [runOps, Tree.reach] at hr
    subst hr
    exact hq a w hg
  | o :: rest, i, fs, σ, d, hd, hr, a, w, hg => by
    simp only [runOps] at hr
    split at hr
    · simp [Tree.reach] at hr
    · rename_i t ht
      obtain ⟨u, hu, hr⟩ := Tree.reach_bind.1 hr
      obtain ⟨loc, F, h⟩ := hg
      have ho : ops[i]? = some o := by
        have := congrArg List.head? hd
        simpa using this
      rw [List.length_cons, List.range'_succ, wpOps_cons]
      have hstep := gstep_ok (Q := Q) h hc hnp hcn ho ht hu
      refine wpOp_mono (fun a w hg => ?_) hstep
      cases hb : (d && !(o.after.toList.all (fun e => Nat.blt e.on i) && fs.all fun g => !(clash g ⟨i, (gstep ctx ops.toList i o).reads σ, u.map (·.1)⟩) || (bef.getD i 0).testBit g.i)) with
      | true => rw [hb] at hr; simp [Tree.reach] at hr
      | false =>
        rw [hb] at hr
        exact runOps_text hc hnp hcn hq rest (i + 1) _ _ d (by rw [← List.drop_drop, hd]; rfl) hr a w hg
end
end Go.Rf
end
section
set_option linter.unusedSimpArgs false
set_option linter.unusedVariables false
namespace Go.Rf
open Go.RowKit
variable {E : Env} {P : Program}
section
variable {n : Nat} {F0 Wr : Nat → Nat → Prop} {w0 : Base} {loc : Nat → Nat} {F : Nat → Nat → Prop} {σ : St E.A} {a : Act} {w : World} {Q : Exit → Act → World → Prop}
variable {o : Oper} {t : Tree (Upd E)} {u : Upd E} {ctx : Ctx E}
/-- The state after those operations that f tells. -/
def sd (f : Nat → Bool) : Nat → List (Upd E) → St E.A → St E.A
  | _, [], σ => σ
  | i, u :: us, σ => sd f (i + 1) us (bif f i then u ++ σ else σ)
def keys (u : Upd E) : List Nat := u.map (·.1)
theorem get_app_key : ∀ {u : Upd E} {r : Nat}, r ∈ keys u → ∀ σ τ : St E.A, get (u ++ σ) r = get (u ++ τ) r
  | [], r, h, _, _ => by simp [keys] at h
  | (k, v) :: u, r, h, σ, τ => by
    simp only [List.cons_append, get_cons]
    by_cases e : k = r
    · rw [if_pos e, if_pos e]
    · rw [if_neg e, if_neg e]
      refine get_app_key ?_ σ τ
      rcases List.mem_cons.1 h with h | h
      · exact absurd h.symm e
      · exact h
theorem get_app_not : ∀ {u : Upd E} {r : Nat}, r ∉ keys u → ∀ σ : St E.A, get (u ++ σ) r = get σ r
  | [], r, h, _ => rfl
  | (k, v) :: u, r, h, σ => by
    simp only [keys, List.map_cons, List.mem_cons, not_or] at h
    simp only [List.cons_append, get_cons]
    rw [if_neg (fun e => h.1 e.symm)]
    exact get_app_not h.2 σ
theorem sd_get (f g : Nat → Bool) (r : Nat) : ∀ (us : List (Upd E)) (i : Nat) (σ τ : St E.A), get σ r = get τ r → (∀ k u, us[k]? = some u → r ∈ keys u → f (i + k) = g (i + k)) → get (sd f i us σ) r = get (sd g i us τ) r
  | [], i, σ, τ, h, _ => h
  | u :: us, i, σ, τ, h, hk => by
    simp only [sd]
    refine sd_get f g r us (i + 1) _ _ ?_ (fun k u' hu hr => by have := hk (k + 1) u' (by simpa using hu) hr; rwa [show i + (k + 1) = i + 1 + k by omega] at this)
    by_cases hr : r ∈ keys u
    · have := hk 0 u rfl hr
      simp only [Nat.add_zero] at this
      rw [this]
      cases g i
      · exact h
      · exact get_app_key hr _ _
    · cases f i <;> cases g i <;> simp only [cond_true, cond_false, get_app_not hr] <;> exact h
theorem sd_none (f : Nat → Bool) (r : Nat) (us : List (Upd E)) (i : Nat) (σ : St E.A) (h : ∀ k u, us[k]? = some u → r ∈ keys u → f (i + k) = false) : get (sd f i us σ) r = get σ r := by
  have : ∀ (us : List (Upd E)) (i : Nat) (σ : St E.A), sd (fun _ => false) i us σ = σ := by
    intro us
    induction us with
    | nil => intro i σ; rfl
    | cons u us ih => intro i σ; simp only [sd, cond_false]; exact ih _ _
  rw [sd_get f (fun _ => false) r us i σ σ rfl h, this]
theorem sd_last (f : Nat → Bool) (r : Nat) : ∀ (us : List (Upd E)) (i k : Nat) (u : Upd E) (σ τ : St E.A), us[k]? = some u → r ∈ keys u → f (i + k) = true → (∀ j u', k < j → us[j]? = some u' → r ∈ keys u' → f (i + j) = false) → get (sd f i us σ) r = get (u ++ τ) r
  | [], i, k, u, σ, τ, h, _, _, _ => by simp at h
  | v :: us, i, 0, u, σ, τ, h, hr, hf, hl => by
    simp at h; subst h
    simp only [sd]
    rw [show f i = true from hf, cond_true, sd_none f r us (i + 1) _ (fun j u' hu hr' => by have := hl (j + 1) u' (by omega) (by simpa using hu) hr'; rwa [show i + (j + 1) = i + 1 + j by omega] at this)]
    exact get_app_key hr _ _
  | v :: us, i, k + 1, u, σ, τ, h, hr, hf, hl => by
    simp only [sd]
    exact sd_last f r us (i + 1) k u _ τ (by simpa using h) hr (by rwa [show i + (k + 1) = i + 1 + k by omega] at hf) (fun j u' hj hu hr' => by have := hl (j + 1) u' (by omega) (by simpa using hu) hr'; rwa [show i + (j + 1) = i + 1 + j by omega] at this)
/-- The relation sees a state's entries alone. -/
theorem Rel.congr {τ : St E.A} (h : Rel n F0 Wr w0 loc F σ a w) (e : ∀ r, get τ r = get σ r) : Rel n F0 Wr w0 loc F τ a w := by
  refine h.move (M := fun r k x y => r = x ∧ k = y) h.size h.defers (fun t h1 h2 => by rw [e]; exact h.hi t h1 h2) (fun t ht => by rw [e]; exact h.slot t ht) (fun b ty cells hb => ?_) (fun r hr b hb => ?_)
    (fun r k r' k' x y m m' => ⟨m.1.trans m'.1.symm, m.2.trans m'.2.symm⟩) (fun r k i xs u hh => .inr ⟨r, k, ⟨rfl, rfl⟩, ?_⟩) (fun _ _ _ _ _ _ _ _ => rfl) h.keep (Nat.le_refl _)
  · rw [e] at hb; obtain ⟨cs, h1, h2, _⟩ := h.blk b ty cells hb; exact ⟨cells, hb, cs, h1, h2⟩
  · rw [e] at hb ⊢; exact h.live r hr b hb
  · cases hh with
    | slot t i xs ht hg => rw [e] at hg; exact .slot _ _ _ ht hg
    | tup t k i xs ts us u ht hg hk hv hu => rw [e] at hg; exact .tup _ _ _ _ _ _ _ ht hg hk hv hu
    | blk b k i xs ty cells u hg hk hu => rw [e] at hg; exact .blk _ _ _ _ _ _ _ hg hk hu
/-- What is known of the operations' run in the text's order. -/
structure Trace (ctx : Ctx E) (ops : List Oper) (bef : List Nat) (i : Nat) (rest : List Oper) (fs : List Foot) (σ : St E.A) (us : List (Upd E)) : Prop where
  len : us.length = rest.length
  run : ∀ k o u, rest[k]? = some o → us[k]? = some u → ∃ t, (gstep ctx ops (i + k) o).run (sd (fun j => Nat.blt j (i + k)) i us σ) = some t ∧ t.reach u
  aft : ∀ k o, rest[k]? = some o → ∀ e ∈ o.after.toList, e.on < i + k
  old : ∀ k o u, rest[k]? = some o → us[k]? = some u → ∀ g ∈ fs, clash g ⟨i + k, (gstep ctx ops (i + k) o).reads (sd (fun j => Nat.blt j (i + k)) i us σ), keys u⟩ = false ∨ (bef.getD (i + k) 0).testBit g.i = true
  prs : ∀ k o u k' o' u', k' < k → rest[k]? = some o → us[k]? = some u → rest[k']? = some o' → us[k']? = some u' →
    clash ⟨i + k', (gstep ctx ops (i + k') o').reads (sd (fun j => Nat.blt j (i + k')) i us σ), keys u'⟩ ⟨i + k, (gstep ctx ops (i + k) o).reads (sd (fun j => Nat.blt j (i + k)) i us σ), keys u⟩ = false ∨ (bef.getD (i + k) 0).testBit (i + k') = true
theorem blt_self (i : Nat) : Nat.blt i i = false := by
  cases h : Nat.blt i i with
  | false => rfl
  | true => have := Nat.le_of_ble_eq_true h; exact absurd this (by simp)
theorem blt_true {i j : Nat} (h : i < j) : Nat.blt i j = true := by
  unfold Nat.blt; exact Nat.ble_eq_true_of_le h
theorem blt_iff {i j : Nat} : Nat.blt i j = true ↔ i < j := ⟨fun h => Nat.le_of_ble_eq_true h, blt_true⟩
theorem sd_below : ∀ (us : List (Upd E)) (i m : Nat) (σ : St E.A), m ≤ i → sd (fun j => Nat.blt j m) i us σ = σ
  | [], _, _, _, _ => rfl
  | u :: us, i, m, σ, h => by
    have : Nat.blt i m = false := by
      cases hb : Nat.blt i m with
      | false => rfl
      | true => have := Nat.le_of_ble_eq_true hb; exact absurd this (by omega)
    simp only [sd, this, cond_false]
    exact sd_below us (i + 1) m σ (by omega)
theorem runOps_trace {ops : List Oper} {bef : List Nat} {τ : St E.A} : ∀ (rest : List Oper) (i : Nat) (fs : List Foot) (σ : St E.A), (runOps ctx ops true bef i rest fs σ).reach τ →
    ∃ us, τ = sd (fun _ => true) i us σ ∧ Trace ctx ops bef i rest fs σ us
  | [], i, fs, σ, h => by
    simp only [runOps, Tree.reach] at h
    exact ⟨[], h, ⟨rfl, fun k o u h => by simp at h, fun k o h => by simp at h, fun k o u h => by simp at h, fun k o u k' o' u' _ h => by simp at h⟩⟩
  | o :: rest, i, fs, σ, h => by
    simp only [runOps] at h
    split at h
    · simp [Tree.reach] at h
    · rename_i t ht
      obtain ⟨u, hu, h⟩ := Tree.reach_bind.1 h
      cases hb : (true && !(o.after.toList.all (fun e => Nat.blt e.on i) && fs.all fun g => !(clash g ⟨i, (gstep ctx ops i o).reads σ, u.map (·.1)⟩) || (bef.getD i 0).testBit g.i)) with
      | true => rw [hb] at h; simp [Tree.reach] at h
      | false =>
        rw [hb] at h
        obtain ⟨us, e, tr⟩ := runOps_trace rest (i + 1) _ _ h
        have hs : ∀ m, i < m → sd (fun j => Nat.blt j m) i (u :: us) σ = sd (fun j => Nat.blt j m) (i + 1) us (u ++ σ) := by
          intro m hm; simp only [sd, blt_true hm, cond_true]
        have h0 : sd (fun j => Nat.blt j i) i (u :: us) σ = σ := sd_below _ _ _ _ (Nat.le_refl _)
        simp only [Bool.true_and, Bool.not_eq_false', Bool.and_eq_true, List.all_eq_true, Bool.or_eq_true, Bool.not_eq_true'] at hb
        refine ⟨u :: us, by rw [e]; rfl, ⟨by simp [tr.len], fun k o' u' ho hu' => ?_, fun k o' ho => ?_, fun k o' u' ho hu' g hg => ?_, fun k o' u' k' o2 u2 hlt ho hu' ho2 hu2 => ?_⟩⟩
        · cases k with
          | zero => simp at ho hu'; subst ho; subst hu'; rw [Nat.add_zero, h0]; exact ⟨t, ht, hu⟩
          | succ k =>
            have := tr.run k o' u' (by simpa using ho) (by simpa using hu')
            rwa [show i + 1 + k = i + (k + 1) by omega, ← hs (i + (k + 1)) (by omega)] at this
        · cases k with
          | zero => simp at ho; subst ho; exact fun e he => blt_iff.1 (hb.1 e he)
          | succ k => have := tr.aft k o' (by simpa using ho); rwa [show i + 1 + k = i + (k + 1) by omega] at this
        · cases k with
          | zero => simp at ho hu'; subst ho; subst hu'; rw [Nat.add_zero, h0]; exact hb.2 g hg
          | succ k =>
            have := tr.old k o' u' (by simpa using ho) (by simpa using hu') g (List.mem_cons_of_mem _ hg)
            rwa [show i + 1 + k = i + (k + 1) by omega, ← hs (i + (k + 1)) (by omega)] at this
        · cases k with
          | zero => omega
          | succ k =>
            cases k' with
            | zero =>
              simp at ho2 hu2; subst ho2; subst hu2
              have := tr.old k o' u' (by simpa using ho) (by simpa using hu') ⟨i, (gstep ctx ops i o).reads σ, u.map (·.1)⟩ List.mem_cons_self
              rw [show i + 1 + k = i + (k + 1) by omega, ← hs (i + (k + 1)) (by omega)] at this
              rw [Nat.add_zero, h0]
              exact this
            | succ k' =>
              have := tr.prs k o' u' k' o2 u2 (by omega) (by simpa using ho) (by simpa using hu') (by simpa using ho2) (by simpa using hu2)
              rwa [show i + 1 + k = i + (k + 1) by omega, show i + 1 + k' = i + (k' + 1) by omega, ← hs (i + (k + 1)) (by omega), ← hs (i + (k' + 1)) (by omega)] at this
end
end Go.Rf
end
section
set_option linter.unusedSimpArgs false
set_option linter.unusedVariables false
namespace Go.Rf
open Go.RowKit
variable {E : Env} {P : Program}
section
variable {n : Nat} {F0 Wr : Nat → Nat → Prop} {w0 : Base} {loc : Nat → Nat} {F : Nat → Nat → Prop} {σ : St E.A} {a : Act} {w : World} {Q : Exit → Act → World → Prop}
variable {o : Oper} {t : Tree (Upd E)} {u : Upd E} {ctx : Ctx E}
theorem meet_of {r : Nat} {a b : List Nat} (h1 : r ∈ a) (h2 : r ∈ b) : meet a b = true := by
  unfold meet inL
  rw [List.any_eq_true]
  refine ⟨r, h1, ?_⟩
  rw [List.any_eq_true]
  exact ⟨r, h2, by simp⟩
theorem bits_bit {acc : List Nat} {j : Nat} : ∀ {es : List Edge}, (bits acc es).testBit j = true → ∃ e ∈ es, Region.binds .any e = true ∧ (j = e.on ∨ (acc.getD e.on 0).testBit j = true)
  | [], h => by simp [bits] at h
  | e :: es, h => by
    simp only [bits] at h
    cases hb : Region.binds .any e with
    | false =>
      rw [hb] at h
      obtain ⟨e', h1, h2, h3⟩ := bits_bit (es := es) h
      exact ⟨e', List.mem_cons_of_mem _ h1, h2, h3⟩
    | true =>
      rw [hb] at h
      simp only [cond_true, Nat.testBit_or, Bool.or_eq_true] at h
      rcases h with (h | h) | h
      · rw [Nat.testBit_two_pow] at h
        exact ⟨e, List.mem_cons_self, hb, .inl (by simpa using (of_decide_eq_true h).symm)⟩
      · exact ⟨e, List.mem_cons_self, hb, .inr h⟩
      · obtain ⟨e', h1, h2, h3⟩ := bits_bit (es := es) h
        exact ⟨e', List.mem_cons_of_mem _ h1, h2, h3⟩
theorem befs_pre : ∀ (os : List Oper) (acc : List Nat), ∃ l, befs os acc = acc ++ l ∧ ∀ i o, os[i]? = some o → ∃ pre : List Nat, pre.length = acc.length + i ∧ (∃ post, befs os acc = pre ++ post) ∧ l[i]? = some (bits pre o.after.toList)
  | [], acc => ⟨[], by simp [befs], fun i o h => by simp at h⟩
  | o :: os, acc => by
    obtain ⟨l, h1, h2⟩ := befs_pre os (acc ++ [bits acc o.after.toList])
    refine ⟨bits acc o.after.toList :: l, by rw [befs, h1]; simp, fun i o' ho => ?_⟩
    cases i with
    | zero => simp at ho; subst ho; exact ⟨acc, rfl, ⟨_, by rw [befs, h1, List.append_assoc]⟩, rfl⟩
    | succ i =>
      obtain ⟨pre, g1, g2, g3⟩ := h2 i o' (by simpa using ho)
      exact ⟨pre, by rw [g1]; simp; omega, by rw [befs]; exact g2, by simpa using g3⟩
theorem bef_bit {ops : List Oper} {i j : Nat} {o : Oper} (ho : ops[i]? = some o) (h : ((befores ops).getD i 0).testBit j = true) : ∃ e ∈ o.after.toList, Region.binds .any e = true ∧ (j = e.on ∨ ((befores ops).getD e.on 0).testBit j = true) := by
  obtain ⟨l, h1, h2⟩ := befs_pre ops []
  obtain ⟨pre, g1, ⟨post, g2⟩, g3⟩ := h2 i o ho
  have hb : befores ops = l := by unfold befores; rw [h1]; rfl
  have hi : (befores ops).getD i 0 = bits pre o.after.toList := by rw [hb, List.getD_eq_getElem?_getD, g3]; rfl
  rw [hi] at h
  obtain ⟨e, e1, e2, e3⟩ := bits_bit h
  refine ⟨e, e1, e2, e3.imp id (fun e3 => ?_)⟩
  have hlt : e.on < pre.length := by
    rcases Nat.lt_or_ge e.on pre.length with h | h
    · exact h
    · rw [List.getD_eq_getElem?_getD, List.getElem?_eq_none h] at e3; simp at e3
  have : (befores ops).getD e.on 0 = pre.getD e.on 0 := by
    rw [show befores ops = pre ++ post from g2, List.getD_eq_getElem?_getD, List.getD_eq_getElem?_getD, List.getElem?_append_left hlt]
  rw [this]; exact e3
/-- A set of operations that is closed: what must stand ahead is in it. -/
theorem closed_bit {ops : List Oper} {D : Nat → Bool} (haft : ∀ (k : Nat) (o : Oper), ops[k]? = some o → ∀ e ∈ o.after.toList, e.on < k) (hcl : ∀ (k : Nat) (o : Oper), ops[k]? = some o → D k = true → ∀ e ∈ o.after.toList, Region.binds .any e = true → D e.on = true) :
    ∀ (i j : Nat) (o : Oper), ops[i]? = some o → (∀ e ∈ o.after.toList, Region.binds .any e = true → D e.on = true) → ((befores ops).getD i 0).testBit j = true → D j = true := by
  intro i
  induction i using Nat.strongRecOn with
  | ind i ih =>
    intro j o ho hd hb
    obtain ⟨e, e1, e2, e3⟩ := bef_bit ho hb
    rcases e3 with rfl | e3
    · exact hd e e1 e2
    · have hlt := haft i o ho e e1
      have hi : i < ops.length := (List.getElem?_eq_some_iff.1 ho).1
      have ho' : ops[e.on]? = some ops[e.on] := List.getElem?_eq_getElem (by omega)
      exact ih e.on hlt j _ ho' (hcl _ _ ho' (hd e e1 e2)) e3
theorem countP_set : ∀ {l : List Bool} {i : Nat}, l[i]? = some false → (l.set i true).countP (!·) + 1 = l.countP (!·)
  | [], i, h => by simp at h
  | b :: l, 0, h => by simp at h; subst h; simp [List.countP_cons]
  | b :: l, i + 1, h => by
    have := countP_set (l := l) (i := i) (by simpa using h)
    simp only [List.set_cons_succ, List.countP_cons]
    omega
/-- Drawn order. -/
theorem any_ok (hc : CtxOk P ctx) (hnp : w0.np = ctx.np) (hcn : ctx.n = n) {ops : Array Oper} {us : List (Upd E)} {τ : St E.A} (tr : Trace ctx ops.toList (befores ops.toList) 0 ops.toList [] σ us) (hτ : τ = sd (fun _ => true) 0 us σ)
    (hq : ∀ a w, Goal n F0 Wr w0 τ a w → Q .normal a w) : ∀ (fuel : Nat) (D : Array Bool), D.size = ops.size → D.toList.countP (!·) ≤ fuel →
    (∀ (k : Nat) (o : Oper), ops.toList[k]? = some o → D.getD k false = true → ∀ e ∈ o.after.toList, Region.binds .any e = true → D.getD e.on false = true) →
    ∀ a w, Goal n F0 Wr w0 (sd (fun i => D.getD i false) 0 us σ) a w → wpAny P .any ops Q fuel D a w := by
  have haft : ∀ (k : Nat) (o : Oper), ops.toList[k]? = some o → ∀ e ∈ o.after.toList, e.on < k := fun k o ho e he => by simpa using tr.aft k o ho e he
  -- nothing ready: all listed
  have hall : ∀ D : Array Bool, D.size = ops.size → Region.ready .any ops D = [] → ∀ i, i < ops.size → D.getD i false = true := by
    intro D hD hr i
    induction i using Nat.strongRecOn with
    | ind i ih =>
      intro hi
      cases hd : D.getD i false with
      | true => rfl
      | false =>
        exfalso
        have hiD : i < D.size := by omega
        have hm : i ∈ Region.ready .any ops D := by
          unfold Region.ready
          rw [List.mem_filter]
          refine ⟨List.mem_range.2 hi, ?_⟩
          have e1 : D.getD i true = false := by
            simp only [Array.getD_eq_getD_getElem?, Array.getElem?_eq_getElem hiD, Option.getD_some] at hd ⊢
            exact hd
          rw [e1, Array.getElem?_eq_getElem hi]
          simp only [Bool.not_false, Bool.true_and, Option.map_some, Option.getD_some]
          rw [← Array.all_toList, List.all_eq_true]
          intro e he
          have hlt := haft i ops[i] (by simp [hi]) e he
          simp [ih e.on hlt (by omega)]
        rw [hr] at hm; cases hm
  have hfin : ∀ D : Array Bool, D.size = ops.size → Region.ready .any ops D = [] → ∀ a w, Goal n F0 Wr w0 (sd (fun i => D.getD i false) 0 us σ) a w → Q .normal a w := by
    rintro D hD hr a w ⟨loc, F, h⟩
    refine hq a w ⟨loc, F, h.congr (fun r => ?_)⟩
    rw [hτ]
    refine sd_get _ _ r us 0 σ σ rfl (fun k u hu _ => ?_)
    have : k < ops.size := by
      have := (List.getElem?_eq_some_iff.1 hu).1
      rw [tr.len] at this; simpa using this
    rw [Nat.zero_add, hall D hD hr k this]
  intro fuel
  induction fuel with
  | zero =>
    intro D hD hcnt hcl a w hg
    have hr : Region.ready .any ops D = [] := by
      unfold Region.ready
      rw [List.filter_eq_nil_iff]
      intro i hi
      have hi := List.mem_range.1 hi
      have hiD : i < D.size := by omega
      have h0 : D.toList.countP (!·) = 0 := by omega
      rw [List.countP_eq_zero] at h0
      have := h0 D[i] (by simp)
      have e1 : D.getD i true = true := by
        simp only [Array.getD_eq_getD_getElem?, Array.getElem?_eq_getElem hiD, Option.getD_some]
        simpa using this
      simp [e1]
    exact ⟨hr, hfin D hD hr a w hg⟩
  | succ fuel ih =>
    intro D hD hcnt hcl a w hg
    refine ⟨fun hr => hfin D hD hr a w hg, fun i hi => ?_⟩
    unfold Region.ready at hi
    rw [List.mem_filter] at hi
    obtain ⟨hi1, hi2⟩ := hi
    have hi1 := List.mem_range.1 hi1
    have hiD : i < D.size := by omega
    rw [Array.getElem?_eq_getElem hi1] at hi2
    simp only [Option.map_some, Option.getD_some, Bool.and_eq_true, Bool.not_eq_true'] at hi2
    obtain ⟨hi3, hi4⟩ := hi2
    rw [← Array.all_toList, List.all_eq_true] at hi4
    have hDi : D[i] = false := by
      simpa only [Array.getD_eq_getD_getElem?, Array.getElem?_eq_getElem hiD, Option.getD_some] using hi3
    have hDi' : D.getD i false = false := by
      simp only [Array.getD_eq_getD_getElem?, Array.getElem?_eq_getElem hiD, Option.getD_some]; exact hDi
    have ho : ops.toList[i]? = some ops[i] := by simp [hi1]
    have haf : ∀ e ∈ (ops[i]).after.toList, Region.binds .any e = true → D.getD e.on false = true := by
      intro e he hb
      have := hi4 e he
      simpa [hb] using this
    have hul : i < us.length := by rw [tr.len]; simpa using hi1
    have hu : us[i]? = some us[i] := List.getElem?_eq_getElem hul
    obtain ⟨t, ht, hreach⟩ := tr.run i _ _ ho hu
    rw [Nat.zero_add] at ht
    obtain ⟨loc, F, h⟩ := hg
    -- whoever clashes and stands ahead is listed; whoever clashes and stands behind is not
    have hahead : ∀ k u', k < i → us[k]? = some u' → ∀ r, r ∈ keys u' → (r ∈ (gstep ctx ops.toList i ops[i]).reads (sd (fun j => Nat.blt j i) 0 us σ) ∨ r ∈ keys us[i]) → D.getD k false = true := by
      intro k u' hk hu' r hr hor
      have hk2 : k < ops.toList.length := by simp; omega
      have hok : ops.toList[k]? = some ops.toList[k] := List.getElem?_eq_getElem hk2
      have hp := tr.prs i _ _ k _ u' hk ho hu hok hu'
      simp only [Nat.zero_add] at hp
      rcases hp with hp | hp
      · exfalso
        simp only [clash, Bool.or_eq_false_iff] at hp
        rcases hor with hor | hor
        · rw [meet_of hr hor] at hp; simp at hp
        · have := hp.1.2; rw [meet_of hr hor] at this; cases this
      · exact closed_bit haft hcl i k _ ho haf hp
    have hbehind : ∀ k u', i < k → us[k]? = some u' → ∀ r, r ∈ keys u' → (r ∈ (gstep ctx ops.toList i ops[i]).reads (sd (fun j => Nat.blt j i) 0 us σ) ∨ r ∈ keys us[i]) → D.getD k false = false := by
      intro k u' hk hu' r hr hor
      have hk2 : k < ops.toList.length := by rw [← tr.len]; exact (List.getElem?_eq_some_iff.1 hu').1
      have hok : ops.toList[k]? = some ops.toList[k] := List.getElem?_eq_getElem hk2
      have hp := tr.prs k _ u' i _ _ hk hok hu' ho hu
      simp only [Nat.zero_add] at hp
      rcases hp with hp | hp
      · exfalso
        simp only [clash, Bool.or_eq_false_iff] at hp
        rcases hor with hor | hor
        · have := hp.2; rw [meet_of hor hr] at this; cases this
        · have := hp.1.2; rw [meet_of hor hr] at this; cases this
      · cases hd : D.getD k false with
        | false => rfl
        | true =>
          have := closed_bit haft hcl k i _ hok (hcl k _ hok hd) hp
          rw [hDi'] at this; cases this
    have hrun : (gstep ctx ops.toList i ops[i]).run (sd (fun i => D.getD i false) 0 us σ) = some t := by
      rw [← ht]
      refine Rd.run_congr _ _ _ (fun r hr => ?_)
      refine sd_get _ _ r us 0 σ σ rfl (fun k u' hu' hr' => ?_)
      simp only [Nat.zero_add]
      rcases Nat.lt_trichotomy k i with hk | rfl | hk
      · rw [hahead k u' hk hu' r hr' (.inl hr), blt_true hk]
      · rw [hDi', blt_self]
      · rw [hbehind k u' hk hu' r hr' (.inl hr)]
        cases hb : Nat.blt k i with
        | false => rfl
        | true => have := blt_iff.1 hb; omega
    have hstep := gstep_ok (Q := Q) h hc hnp hcn (by simp [hi1] : ops[i]? = some ops[i]) hrun hreach
    refine wpOp_mono (fun a w hg => ?_) hstep
    have hD' : (D.setIfInBounds i true).size = ops.size := by simpa using hD
    have hget : ∀ k, (D.setIfInBounds i true).getD k false = if k = i then true else D.getD k false := by
      intro k
      simp only [Array.getD_eq_getD_getElem?, Array.getElem?_setIfInBounds]
      by_cases e : i = k
      · subst e; simp [hiD]
      · rw [if_neg e, if_neg (fun h => e h.symm)]
    refine ih (D.setIfInBounds i true) hD' ?_ (fun k o hok hk e he hb => ?_) a w ?_
    · have hl : D.toList[i]? = some false := by simp [hiD, hDi]
      have := countP_set hl
      rw [Array.toList_setIfInBounds]
      omega
    · rw [hget] at hk ⊢
      by_cases ee : e.on = i
      · rw [if_pos ee]
      · rw [if_neg ee]
        by_cases ek : k = i
        · subst ek
          rw [ho] at hok; injection hok with hok; subst hok
          exact haf e he hb
        · rw [if_neg ek] at hk
          exact hcl k o hok hk e he hb
    · obtain ⟨loc2, F2, h2⟩ := hg
      refine ⟨loc2, F2, h2.congr (fun r => ?_)⟩
      by_cases hr : r ∈ keys us[i]
      · refine sd_last _ r us 0 i us[i] σ _ hu hr (by rw [Nat.zero_add, hget, if_pos rfl]) (fun j u' hj hu' hr' => ?_)
        rw [Nat.zero_add, hget, if_neg (by omega)]
        exact hbehind j u' hj hu' r hr' (.inr hr)
      · rw [get_app_not hr]
        refine sd_get _ _ r us 0 σ σ rfl (fun k u' hu' hr' => ?_)
        simp only [Nat.zero_add, hget]
        by_cases e : k = i
        · subst e; rw [hu] at hu'; injection hu' with hu'; subst hu'; exact absurd hr' hr
        · rw [if_neg e]
end
end Go.Rf
end
section
set_option linter.unusedSimpArgs false
set_option linter.unusedVariables false
namespace Go.Rf
open Go.RowKit
variable {E : Env} {P : Program}
def Ex.to : Ex → Exit
  | .normal => .normal
  | .exit id => .exit id
  | .ret => .ret
section
variable {n : Nat} {F0 Wr : Nat → Nat → Prop} {w0 : Base} {loc : Nat → Nat} {F : Nat → Nat → Prop} {σ : St E.A} {a : Act} {w : World} {Q : Exit → Act → World → Prop}
variable {o : Oper} {t : Tree (Upd E)} {u : Upd E} {ctx : Ctx E}
theorem Rel.drawn (h : Rel n F0 Wr w0 loc F σ a w) : Rel n F0 Wr w0 loc F σ a { w with drawn := w.drawn + 1 } :=
  h.world (fun g o u hf hc => ⟨hc, hf⟩) (fun r k i xs u g hh hg => ⟨rfl, fun o hlo => ((h.own r k i xs u hh).2 g hg o hlo).1⟩) (fun b ty cells hb => ⟨rfl, fun o => ((h.blk b ty cells hb).choose_spec.2.2 o).1⟩)
    ⟨h.keep.os, h.keep.tape, h.keep.output, h.keep.size, h.keep.blk⟩ h.dom h.old h.still
theorem inL_iff {x : Nat} {l : List Nat} : inL x l = true ↔ x ∈ l := by
  unfold inL
  rw [List.any_eq_true]
  constructor
  · rintro ⟨y, h, e⟩; have := Nat.eq_of_beq_eq_true e; rw [this]; exact h
  · intro h; exact ⟨x, h, by simp⟩
theorem get_keep (σ : St E.A) (r : Nat) : ∀ (live : List Nat), get (live.zip (live.map (get σ))) r = if r ∈ live then get σ r else .any
  | [] => rfl
  | x :: live => by
    simp only [List.map_cons, List.zip_cons_cons, get_cons, get_keep σ r live, List.mem_cons]
    by_cases h : x = r
    · subst h; simp
    · rw [if_neg h]
      by_cases h2 : r ∈ live
      · rw [if_pos h2, if_pos (.inr h2)]
      · rw [if_neg h2, if_neg (by rintro (e | e); exact h e.symm; exact h2 e)]
theorem Rel.weak (h : Rel n F0 Wr w0 loc F σ a w) {live : List Nat} (hl : namesIn live (live.map (get σ)) = true) : Rel n F0 Wr w0 loc F (live.zip (live.map (get σ))) a w := by
  have hg := get_keep σ
  have hin : ∀ r x, get (live.zip (live.map (get σ))) r = x → x = .any ∨ (r ∈ live ∧ get σ r = x) := by
    intro r x e
    rw [hg] at e
    by_cases hr : r ∈ live
    · rw [if_pos hr] at e; exact .inr ⟨hr, e⟩
    · rw [if_neg hr] at e; exact .inl e.symm
  refine h.move (M := fun r k x y => r = x ∧ k = y) h.size h.defers (fun t h1 h2 => ?_) (fun t ht => ?_) (fun b ty cells hb => ?_) (fun r hr b hb => ?_)
    (fun r k r' k' x y m m' => ⟨m.1.trans m'.1.symm, m.2.trans m'.2.symm⟩) (fun r k i xs u hh => .inr ⟨r, k, ⟨rfl, rfl⟩, ?_⟩) (fun _ _ _ _ _ _ _ _ => rfl) h.keep (Nat.le_refl _)
  · rw [hg]; split
    · exact h.hi t h1 h2
    · rfl
  · rw [hg]; split
    · exact h.slot t ht
    · trivial
  · rcases hin _ _ hb with e | ⟨_, e⟩
    · cases e
    · obtain ⟨cs, h1, h2, _⟩ := h.blk b ty cells e; exact ⟨cells, e, cs, h1, h2⟩
  · rw [hg] at hb
    by_cases hrl : r ∈ live
    · rw [if_pos hrl] at hb
      unfold namesIn at hl
      rw [List.all_eq_true] at hl
      have := hl (get σ r) (List.mem_map.2 ⟨r, hrl, rfl⟩)
      rw [List.all_eq_true] at this
      have := inL_iff.1 (this b hb)
      rw [hg, if_pos this]
      exact h.live r hr b hb
    · rw [if_neg hrl] at hb; simp [RV.names] at hb
  · cases hh with
    | slot t i xs ht hg' => rcases hin _ _ hg' with e | ⟨_, e⟩; cases e; exact .slot _ _ _ ht e
    | tup t k i xs ts us u ht hg' hk hv hu => rcases hin _ _ hg' with e | ⟨_, e⟩; cases e; exact .tup _ _ _ _ _ _ _ ht e hk hv hu
    | blk b k i xs ty cells u hg' hk hu => rcases hin _ _ hg' with e | ⟨_, e⟩; cases e; exact .blk _ _ _ _ _ _ _ e hk hu
/-- What a loop's summary says of it holds. -/
def LoopOk (P : Program) (ctx : Ctx E) (id : Nat) (c : Code) (s : LoopSum E) : Prop :=
  ∀ (F0 Wr : Nat → Nat → Prop) (w0 : Base), w0.np = ctx.np → ∀ (vs : List (RV E.A)) (r : Ex × List (RV E.A)), (s.run vs).reach r → ∀ (a : Act) (w : World) (Q : Exit → Act → World → Prop), Goal ctx.n F0 Wr w0 (s.live.zip vs) a w →
    (∀ a w, Goal ctx.n F0 Wr w0 (s.live.zip r.2) a w → Q r.1.to a w) → (Code.block id (.loop c)).wp P Q a w
/-- All the loops within are told of rightly. -/
def LoopsOk (P : Program) (ctx : Ctx E) : Code → Prop
  | .seq a b => LoopsOk P ctx a ∧ LoopsOk P ctx b
  | .cond _ t e => LoopsOk P ctx t ∧ LoopsOk P ctx e
  | .block id c => match c with
    | .loop c => ∀ s, look ctx.loops id = some s → LoopOk P ctx id c s
    | c => LoopsOk P ctx c
  | _ => True
theorem run_ok (hc : CtxOk P ctx) (hm : P.follows .mixedOrders = true) (hnp : w0.np = ctx.np) : ∀ (c : Code), LoopsOk P ctx c → ∀ (σ : St E.A) (r : Out E), (run ctx c σ).reach r → ∀ (a : Act) (w : World) (Q : Exit → Act → World → Prop), Goal ctx.n F0 Wr w0 σ a w →
    (∀ a w, Goal ctx.n F0 Wr w0 r.2 a w → Q r.1.to a w) → c.wp P Q a w
  | .skip, _, σ, r, h, a, w, Q, hg, hq => by
    simp only [run, Tree.reach] at h; subst h; exact wp_skip (hq a w hg)
  | .ret, _, σ, r, h, a, w, Q, hg, hq => by
    simp only [run, Tree.reach] at h; subst h; exact wp_ret (hq a w hg)
  | .exit id, _, σ, r, h, a, w, Q, hg, hq => by
    simp only [run, Tree.reach] at h; subst h; exact wp_exit (hq a w hg)
  | .region id ops d, _, σ, r, h, a, w, Q, hg, hq => by
    simp only [run] at h
    obtain ⟨τ, h1, h2⟩ := Tree.reach_bind.1 h
    simp only [Tree.reach] at h2; subst h2
    cases d with
    | false =>
      refine wp_region ?_
      have := runOps_text (Q := Q) hc hnp rfl (ops := ops) hq ops.toList 0 [] σ false rfl h1 a w hg
      rw [List.range_eq_range']
      simpa using this
    | true =>
      refine wp_region_any hm ?_
      obtain ⟨us, e, tr⟩ := runOps_trace _ _ _ _ h1
      have hget : ∀ i, (Array.replicate ops.size false).getD i false = false := by
        intro i; simp only [Array.getD_eq_getD_getElem?, Array.getElem?_replicate]; split <;> rfl
      refine any_ok hc hnp rfl tr e hq ops.size _ (by simp) (by simp [List.countP_replicate]) (fun k o ho hd => by rw [hget] at hd; cases hd) a _ ?_
      obtain ⟨loc, F, hrel⟩ := hg
      exact ⟨loc, F, hrel.drawn.congr (fun r => sd_none _ r us 0 σ (fun k u _ _ => hget _))⟩
  | .seq x y, hl, σ, r, h, a, w, Q, hg, hq => by
    simp only [run] at h
    obtain ⟨r1, h1, h2⟩ := Tree.reach_bind.1 h
    refine wp_seq (run_ok hc hm hnp x hl.1 σ r1 h1 a w _ hg (fun a w hg => ?_))
    obtain ⟨e, τ⟩ := r1
    cases e with
    | normal => exact run_ok hc hm hnp y hl.2 τ r h2 a w Q hg hq
    | exit id => simp only [Tree.reach] at h2; subst h2; exact hq a w hg
    | ret => simp only [Tree.reach] at h2; subst h2; exact hq a w hg
  | .cond c x y, hl, σ, r, h, a, w, Q, hg, hq => by
    simp only [run, sCond] at h
    obtain ⟨loc, F, hrel⟩ := hg
    split at h
    · rename_i hr
      obtain ⟨rv, g1, g2, g3, _⟩ := rdO_ok hrel hr
      simp only [Rd.run, Option.some.injEq] at g3; subst g3
      exact wp_cond_true g1 (run_ok hc hm hnp x hl.1 σ r h a w Q ⟨loc, F, hrel⟩ hq)
    · rename_i hr
      obtain ⟨rv, g1, g2, g3, _⟩ := rdO_ok hrel hr
      simp only [Rd.run, Option.some.injEq] at g3; subst g3
      exact wp_cond_false g1 (run_ok hc hm hnp y hl.2 σ r h a w Q ⟨loc, F, hrel⟩ hq)
    · rename_i b ow hr
      obtain ⟨rv, g1, g2, g3, _⟩ := rdO_ok hrel hr
      simp only [Rd.run, Option.some.injEq] at g3; subst g3
      have hb : a.eval c = .bool b := LVbool (loc := loc) g1
      rcases h with ⟨rfl, h⟩ | ⟨rfl, h⟩
      · exact wp_cond_true hb (run_ok hc hm hnp x hl.1 σ r h a w Q ⟨loc, F, hrel⟩ hq)
      · exact wp_cond_false hb (run_ok hc hm hnp y hl.2 σ r h a w Q ⟨loc, F, hrel⟩ hq)
    · simp [Tree.reach] at h
  | .block id c, hl, σ, r, h, a, w, Q, hg, hq => by
    by_cases hlp : ∃ b, c = .loop b
    · obtain ⟨b, rfl⟩ := hlp
      simp only [run] at h
      simp only [LoopsOk] at hl
      split at h
      · rename_i s hs
        cases hn : namesIn s.live (s.live.map (get σ)) with
        | false => rw [hn] at h; simp [Tree.reach] at h
        | true =>
          rw [hn] at h
          simp only [Bool.not_true, cond_false] at h
          obtain ⟨r1, h1, h2⟩ := Tree.reach_bind.1 h
          simp only [Tree.reach] at h2; subst h2
          obtain ⟨loc, F, hrel⟩ := hg
          exact hl s hs F0 Wr w0 hnp _ r1 h1 a w Q ⟨loc, F, hrel.weak hn⟩ hq
      · simp [Tree.reach] at h
    · have hrun : run ctx (.block id c) σ = (run ctx c σ).bind fun r => match r.1 with
          | .exit id' => bif Nat.beq id' id then .leaf (.normal, r.2) else .leaf (.exit id', r.2)
          | e => .leaf (e, r.2) := by
        cases c <;> first | rfl | exact absurd ⟨_, rfl⟩ hlp
      have hl2 : LoopsOk P ctx c := by
        cases c <;> first | exact hl | exact absurd ⟨_, rfl⟩ hlp
      rw [hrun] at h
      obtain ⟨r1, h1, h2⟩ := Tree.reach_bind.1 h
      refine wp_block (run_ok hc hm hnp c hl2 σ r1 h1 a w _ hg (fun a w hg => ?_))
      obtain ⟨e, τ⟩ := r1
      cases e with
      | normal => simp only [Tree.reach] at h2; subst h2; exact hq a w hg
      | ret => simp only [Tree.reach] at h2; subst h2; exact hq a w hg
      | exit id' =>
        dsimp only at h2
        show (if id' = id then Q .normal a w else Q (.exit id') a w)
        by_cases e : id' = id
        · subst e
          simp only [Nat.beq_refl, cond_true, Tree.reach] at h2; subst h2
          rw [if_pos rfl]; exact hq a w hg
        · have hb : Nat.beq id' id = false := by
            cases hb : Nat.beq id' id with
            | false => rfl
            | true => exact absurd (Nat.eq_of_beq_eq_true hb) e
          rw [hb] at h2
          simp only [cond_false, Tree.reach] at h2; subst h2
          rw [if_neg e]; exact hq a w hg
  | .loop _, _, _, _, h, _, _, _, _, _ => by simp [run, Tree.reach] at h
  | .rangeFunc _ _ _ _, _, _, _, h, _, _, _, _, _ => by simp [run, Tree.reach] at h
  | .scope _, _, _, _, h, _, _, _, _, _ => by simp [run, Tree.reach] at h
  | .label _, _, _, _, h, _, _, _, _, _ => by simp [run, Tree.reach] at h
  | .goto _, _, _, _, h, _, _, _, _, _ => by simp [run, Tree.reach] at h
  | .refuse _, _, _, _, h, _, _, _, _, _ => by simp [run, Tree.reach] at h
end
end Go.Rf
end
section
set_option linter.unusedSimpArgs false
set_option linter.unusedVariables false
namespace Go.Rf
open Go.RowKit
variable {E : Env} {P : Program}
theorem least {S : Nat → Prop} : (∃ k, S k) → ∃ k, S k ∧ ∀ j, S j → k ≤ j := by
  rintro ⟨k, hk⟩
  induction k using Nat.strongRecOn with
  | ind k ih =>
    by_cases h : ∃ j, j < k ∧ S j
    · obtain ⟨j, hj, hs⟩ := h; exact ih j hj hs
    · exact ⟨k, hk, fun j hj => by
        rcases Nat.lt_or_ge j k with hl | hl
        · exact absurd ⟨j, hl, hj⟩ h
        · exact hl⟩
noncomputable def mn (S : Nat → Prop) : Nat := Classical.epsilon (fun k => S k ∧ ∀ j, S j → k ≤ j)
theorem mn_spec {S : Nat → Prop} (h : ∃ k, S k) : S (mn S) ∧ ∀ j, S j → mn S ≤ j := Classical.epsilon_spec (p := fun k => S k ∧ ∀ j, S j → k ≤ j) (least h)
/-- What one round leaves to do. -/
def Onward (s : LoopSum E) (id : Nat) (μ : List (RV E.A) → Nat) (vs : List (RV E.A)) (r : Ex × List (RV E.A)) : Ex × List (RV E.A) → Prop
  | (.normal, vs1) => μ vs1 < μ vs ∧ (s.run vs1).reach r
  | (.exit id', vs1) => r = (if id' = id then .normal else .exit id', vs1)
  | (.ret, vs1) => r = (.ret, vs1)
theorem loop_rule {ctx : Ctx E} (hc : CtxOk P ctx) (hm : P.follows .mixedOrders = true) {id : Nat} {c : Code} (hl : LoopsOk P ctx c) {s : LoopSum E} (μ : List (RV E.A) → Nat)
    (law : ∀ vs r, (s.run vs).reach r → ∃ r1, (bodyRun ctx s.live c vs).reach r1 ∧ Onward s id μ vs r r1) : LoopOk P ctx id c s := by
  intro F0 Wr w0 hnp vs r hr a w Q hg hq
  let S : Act → World → Nat → Prop := fun a w k => ∃ vs, Goal ctx.n F0 Wr w0 (s.live.zip vs) a w ∧ (s.run vs).reach r ∧ μ vs = k
  refine wp_block (wp_loop (fun a w => ∃ k, S a w k) (fun a w => mn (S a w)) ⟨_, vs, hg, hr, rfl⟩ (fun a w hI => ?_))
  obtain ⟨⟨vs, hg, hr, hk⟩, hmin⟩ := mn_spec hI
  obtain ⟨r1, hb, ho⟩ := law vs r hr
  unfold bodyRun at hb
  obtain ⟨r0, h0, h1⟩ := Tree.reach_bind.1 hb
  cases hn : namesIn s.live (s.live.map (get r0.2)) with
  | false => rw [hn] at h1; simp [Tree.reach] at h1
  | true =>
    rw [hn] at h1
    simp only [Bool.not_true, cond_false, Tree.reach] at h1
    subst h1
    refine run_ok hc hm hnp c hl _ r0 h0 a w _ hg (fun a' w' hg' => ?_)
    have hweak : Goal ctx.n F0 Wr w0 (s.live.zip (s.live.map (get r0.2))) a' w' := by
      obtain ⟨loc, F, h⟩ := hg'
      exact ⟨loc, F, h.weak hn⟩
    obtain ⟨e, τ⟩ := r0
    cases e with
    | normal =>
      obtain ⟨hlt, hr'⟩ := ho
      refine ⟨⟨_, _, hweak, hr', rfl⟩, ?_⟩
      have := (mn_spec (S := S a' w') ⟨_, _, hweak, hr', rfl⟩).2 _ ⟨_, hweak, hr', rfl⟩
      show mn (S a' w') < mn (S a w)
      rw [← hk]
      exact Nat.lt_of_le_of_lt this hlt
    | exit id' =>
      have ho : r = (if id' = id then .normal else .exit id', _) := ho
      subst ho
      show (if id' = id then Q .normal a' w' else Q (.exit id') a' w')
      by_cases e : id' = id
      · rw [if_pos e]; have := hq a' w' hweak; simpa [e, Ex.to] using this
      · rw [if_neg e]; have := hq a' w' hweak; simpa [e, Ex.to] using this
    | ret =>
      have ho : r = (.ret, _) := ho
      subst ho
      exact hq a' w' hweak
end Go.Rf
end
section
set_option linter.unusedSimpArgs false
set_option linter.unusedVariables false
namespace Go.Rf
open Go.RowKit
variable {E : Env} {P : Program}
section
variable {n : Nat} {F0 Wr : Nat → Nat → Prop} {w0 : Base} {loc : Nat → Nat} {F : Nat → Nat → Prop} {σ : St E.A} {a : Act} {w : World} {Q : Exit → Act → World → Prop}
variable {ctx : Ctx E}
/-- What a function leaves behind. -/
theorem Rel.final (h : Rel n F0 Wr w0 loc F σ a w) {rs : List (TV E.A)} {vs : List (RV E.A)} {tmps : Array Value} {T : Nat → Nat → Prop} (hle : rs.length ≤ 1000000) (hsz : tmps.size = rs.length)
    (hs : ∀ (j : Nat) (r : TV E.A), rs[j]? = some r → TVR loc F w r (tmps.getD j undef) ∧ r.names = [])
    (ho : ∀ (j i : Nat) (xs : List (E.A i)), rs[j]? = some (.leaf ⟨.sl i, xs⟩ true) → ∃ t, T j t ∧ t < n ∧ get σ t = .v (.leaf ⟨.sl i, xs⟩ true) ∧ tmps.getD j undef = a.tmps.getD t undef)
    (hT : ∀ j j' t, T j t → T j' t → j = j')
    (hv : ∀ (j : Nat) (v : RV E.A), vs[j]? = some v → v = get σ (bk j) ∧ v.names = []) : Rel rs.length F0 Wr w0 loc F (begin_ rs vs) ⟨tmps, []⟩ w := by
  have hbk : ∀ j x, get (begin_ rs vs) (bk j) = x → x = .any ∨ (x = get σ (bk j) ∧ x.names = []) := by
    intro j x e
    rw [get_begin_bk hle] at e
    cases hj : vs[j]? with
    | none => rw [List.getD_eq_getElem?_getD, hj] at e; exact .inl e.symm
    | some v =>
      rw [List.getD_eq_getElem?_getD, hj] at e
      have e : v = x := e
      subst e; exact .inr (hv j v hj)
  have hslot : ∀ t, t < rs.length → ∃ r, rs[t]? = some r ∧ get (begin_ rs vs) t = .v r := fun t ht =>
    ⟨rs[t], List.getElem?_eq_getElem ht, get_begin_slot (List.getElem?_eq_getElem ht)⟩
  have hh : ∀ r k i xs u, Hold loc rs.length (begin_ rs vs) ⟨tmps, []⟩ w r k i xs u → ∃ r', ((T r r' ∧ r' < n) ∨ (∃ b, r = bk b ∧ r' = bk b)) ∧ Hold loc n σ a w r' k i xs u := by
    intro r k i xs u hh
    cases hh with
    | slot t i xs ht hg =>
      obtain ⟨y, hy, hy'⟩ := hslot r ht
      rw [hy'] at hg; injection hg with hg; subst hg
      obtain ⟨t, h1, h2, h3, h4⟩ := ho r i xs hy
      refine ⟨t, .inl ⟨h1, h2⟩, ?_⟩
      show Hold loc n σ a w t 0 i xs (tmps.getD r undef)
      rw [h4]; exact .slot t i xs h2 h3
    | tup t k i xs ts us u ht hg hk hv hu =>
      obtain ⟨y, hy, hy'⟩ := hslot r ht
      rw [hy'] at hg; cases hg
    | blk b k i xs ty cells u hg hk hu =>
      rcases hbk b _ hg with e | ⟨e, _⟩
      · cases e
      · exact ⟨bk b, .inr ⟨b, rfl, rfl⟩, .blk b k i xs ty cells u e.symm hk hu⟩
  have hinj : ∀ r r' s, ((T r s ∧ s < n) ∨ (∃ b, r = bk b ∧ s = bk b)) → ((T r' s ∧ s < n) ∨ (∃ b, r' = bk b ∧ s = bk b)) → r = r' := by
    rintro r r' s (⟨f1, g1⟩ | ⟨b, rfl, rfl⟩) (⟨f2, g2⟩ | ⟨b', rfl, e⟩)
    · exact hT _ _ _ f1 f2
    · exact absurd e.symm (bk_ne_slot h.n_le g1)
    · exact absurd rfl (bk_ne_slot h.n_le g2)
    · exact e
  refine ⟨hsz, hle, rfl, fun t h1 h2 => get_begin_out h1 h2, fun t ht => ?_, fun j ty cells hg => ?_, fun j j' ty cells ty' cells' h1 h2 e => ?_, fun r hr b hb => ?_, fun r k i xs u hd => ?_, fun r k i xs u r' k' i' xs' u' g h1 h2 e1 e2 => ?_, fun r k i xs u g b ty cells h1 e hb => ?_, h.keep, h.dom, h.old, h.still, h.pin⟩
  · obtain ⟨y, hy, hy'⟩ := hslot t ht
    rw [hy']; exact (hs t y hy).1
  · rcases hbk j _ hg with e | ⟨e, _⟩
    · cases e
    · exact h.blk j ty cells e.symm
  · rcases hbk j _ h1 with e1 | ⟨e1, _⟩
    · cases e1
    rcases hbk j' _ h2 with e2 | ⟨e2, _⟩
    · cases e2
    exact h.inj _ _ _ _ _ _ e1.symm e2.symm e
  · exfalso
    by_cases hlt : r < rs.length
    · obtain ⟨y, hy, hy'⟩ := hslot r hlt
      rw [hy'] at hb
      have : b ∈ y.names := hb
      rw [(hs r y hy).2] at this; cases this
    · have hr' : 1000000 ≤ r := hr.resolve_left hlt
      obtain ⟨j, rfl⟩ : ∃ j, r = bk j := ⟨r - 1000000, by unfold bk; omega⟩
      rcases hbk j _ rfl with e | ⟨_, e⟩
      · rw [e] at hb; simp [RV.names] at hb
      · rw [e] at hb; cases hb
  · obtain ⟨r', _, h0⟩ := hh _ _ _ _ _ hd
    exact h.own _ _ _ _ _ h0
  · obtain ⟨s, f1, g1⟩ := hh _ _ _ _ _ h1
    obtain ⟨s', f2, g2⟩ := hh _ _ _ _ _ h2
    obtain ⟨e, ek⟩ := h.sep _ _ _ _ _ _ _ _ _ _ g g1 g2 e1 e2
    subst e
    exact ⟨hinj _ _ _ f1 f2, ek⟩
  · obtain ⟨s, _, g1⟩ := hh _ _ _ _ _ h1
    rcases hbk b _ hb with e2 | ⟨e2, _⟩
    · cases e2
    exact h.apart _ _ _ _ _ g b ty cells g1 e e2.symm
/-- A function begins: room for its slots. -/
theorem Rel.grow {args : Array Value} {xs : List (TV E.A)} {vs : List (RV E.A)} (h : Rel args.size F0 Wr w0 loc F (begin_ xs vs) ⟨args, []⟩ w) (hx : xs.length = args.size) {m : Nat} (hm : args.size ≤ m) (hle : m ≤ 1000000) :
    Rel m F0 Wr w0 loc F (begin_ xs vs) ⟨args ++ Array.replicate (m - args.size) undef, []⟩ w := by
  have hget : ∀ t, t < args.size → (args ++ Array.replicate (m - args.size) undef).getD t undef = args.getD t undef := by
    intro t ht; simp [Array.getD_eq_getD_getElem?, Array.getElem?_append_left ht]
  have hout : ∀ t, args.size ≤ t → t < m → get (begin_ xs vs) t = .any := fun t h1 h2 => get_begin_out (by omega) (by omega)
  have hh : ∀ r k i ys u, Hold loc m (begin_ xs vs) ⟨args ++ Array.replicate (m - args.size) undef, []⟩ w r k i ys u → Hold loc args.size (begin_ xs vs) ⟨args, []⟩ w r k i ys u := by
    intro r k i ys u hh
    cases hh with
    | slot t i ys ht hg =>
      rcases Nat.lt_or_ge r args.size with hl | hl
      · have := Hold.slot (loc := loc) (a := (⟨args, []⟩ : Act)) (w := w) r i ys hl hg
        show Hold _ _ _ _ _ r 0 i ys ((args ++ Array.replicate (m - args.size) undef).getD r undef)
        rw [hget r hl]; exact this
      · rw [hout r hl ht] at hg; cases hg
    | tup t k i ys ts us u ht hg hk hv hu =>
      rcases Nat.lt_or_ge r args.size with hl | hl
      · refine .tup r k i ys ts us u hl hg hk ?_ hu
        rw [← hv]; exact (hget r hl).symm
      · rw [hout r hl ht] at hg; cases hg
    | blk b k i ys ty cells u hg hk hu => exact .blk b k i ys ty cells u hg hk hu
  refine ⟨by simp; omega, hle, rfl, fun t h1 h2 => h.hi t (by omega) h2, fun t ht => ?_, h.blk, h.inj, fun r hr b hb => ?_, fun r k i ys u hd => h.own _ _ _ _ _ (hh _ _ _ _ _ hd), fun r k i ys u r' k' i' ys' u' g h1 h2 => h.sep _ _ _ _ _ _ _ _ _ _ g (hh _ _ _ _ _ h1) (hh _ _ _ _ _ h2),
    fun r k i ys u g b ty cells h1 => h.apart _ _ _ _ _ g b ty cells (hh _ _ _ _ _ h1), h.keep, h.dom, h.old, h.still, h.pin⟩
  · rcases Nat.lt_or_ge t args.size with hl | hl
    · show RVR _ _ _ _ ((args ++ Array.replicate (m - args.size) undef).getD t undef)
      rw [hget t hl]; exact h.slot t hl
    · rw [hout t hl ht]; trivial
  · rcases Nat.lt_or_ge r args.size with hl | hl
    · exact h.live r (.inl hl) b hb
    · rcases hr with hr | hr
      · rw [hout r hl hr] at hb; simp [RV.names] at hb
      · exact h.live r (.inr hr) b hb
end
end Go.Rf
end
section
set_option linter.unusedSimpArgs false
set_option linter.unusedVariables false
namespace Go.Rf
open Go.RowKit
variable {E : Env} {P : Program}
section
variable {n : Nat} {F0 Wr : Nat → Nat → Prop} {w0 : Base} {loc : Nat → Nat} {F : Nat → Nat → Prop} {σ : St E.A} {a : Act} {w : World} {Q : Exit → Act → World → Prop}
variable {ctx : Ctx E}
def resVal (tmps : Array Value) : ResultVar → Sem Value
  | .tmp t => pure (tmps.getD t undef)
  | .cell a t => do loadVar t (← asAddr (tmps.getD a undef))
/-- One result is read. -/
theorem res_ok (h : Rel n F0 Wr w0 loc F σ a w) (htt : TTOk P E ctx.tt) {rv : ResultVar} {x : TV E.A} (hx : resOf ctx.tt σ rv = some x) (hn : ∀ t, rv = .tmp t → t < n) (hnc : ∀ t ty, rv = .cell t ty → t < n) :
    ∃ v, (resVal a.tmps rv).run P w = .ok v w ∧ (x.names = [] → TVR loc F w x v) ∧ ∀ i xs, x = .leaf ⟨.sl i, xs⟩ true → ∃ t, rv = .tmp t ∧ get σ t = .v x ∧ v = a.tmps.getD t undef := by
  cases rv with
  | tmp t =>
    have ht := hn t rfl
    refine ⟨_, rfl, fun _ => ?_, fun i xs e => ⟨t, rfl, ?_, rfl⟩⟩
    · exact (tv_ok hx (h.slot t ht) (h.live t (.inl ht))).1
    · simp only [resOf] at hx
      cases hg : get σ t with
      | v y => rw [hg] at hx; simp [RV.tv] at hx; rw [hx]
      | kn b => rw [hg] at hx; simp [RV.tv] at hx; subst hx; cases e
      | _ => rw [hg] at hx; simp [RV.tv] at hx
  | cell t ty =>
    have ht := hnc t ty rfl
    simp only [resOf] at hx
    split at hx
    · rename_i b off own i hg hty
      split at hx
      · rename_i bt cells hb
        have hs := h.slot t ht
        rw [hg] at hs
        have hv : a.tmps.getD t undef = .pointer (some ⟨loc b, off, none⟩) := hs
        obtain ⟨cs, k1, k2, _⟩ := h.blk b _ _ hb
        have hns : noSelf ((cells.drop off).take i.size) = true := by
          cases hx' : noSelf ((cells.drop off).take i.size) with
          | true => rfl
          | false => rw [hx'] at hx; simp at hx
        rw [hns] at hx
        simp only [Bool.not_true, cond_false] at hx
        have hall : All2 (LV loc F w) (((cells.drop off).take i.size).map (·.1)) ((cs.toList.drop off).take i.size) := by
          refine LVs_of_CVs (me := loc b) hns ?_
          rw [List.map_take, List.map_drop]; exact (k2.drop off).take i.size
        have hlen : ((cs.toList.drop off).take i.size).length = i.size := by
          rw [← hall.len]
          cases i with
          | leaf l => unfold asTV at hx; split at hx <;> simp_all [Ty.size]
          | agg ts fs =>
            simp only [asTV] at hx
            by_cases e : ts.length = (((cells.drop off).take (Ty.agg ts fs).size).map (·.1)).length
            · exact e.symm
            · rw [if_neg e] at hx; cases hx
        obtain ⟨v, g1, g2, g3, _⟩ := loadVar_ok (htt _ _ hty) (b := loc b) (off := off) hlen (fun j v hj => by
          rw [List.getElem?_take] at hj
          split at hj
          · rw [List.getElem?_drop] at hj
            have hj : cs[off + j]? = some v := by simpa using hj
            simp [World.cell?, k1, hj]
          · cases hj) hall hx
        refine ⟨v, by simp only [resVal, hv]; exact g1, fun _ => g2, fun i' xs e => ?_⟩
        subst e; cases g3
      · cases hx
    · cases hx
end
end Go.Rf
end
section
set_option linter.unusedSimpArgs false
set_option linter.unusedVariables false
namespace Go.Rf
open Go.RowKit
variable {E : Env} {P : Program}
theorem mapM_run {w : World} {f : ResultVar → Sem Value} : ∀ {l : List ResultVar} {vs : List Value}, All2 (fun r v => (f r).run P w = .ok v w) l vs → (l.mapM f).run P w = .ok vs w
  | [], [], _ => by simp
  | r :: l, v :: vs, h => by
    have := mapM_run h.2
    simp [List.mapM_cons, Sem.run_bind, h.1, this]
theorem results_run {w : World} {fn : Func} {tmps : Array Value} {vs : List Value} (h : All2 (fun r v => (resVal tmps r).run P w = .ok v w) fn.results.toList vs) :
    (results fn tmps).run P w = .ok (if h : vs.toArray.size = 1 then vs.toArray[0] else .tuple vs.toArray) w := by
  have h1 := mapM_run h
  have h2 : (fn.results.mapM (resVal tmps)).run P w = .ok vs.toArray w := by
    rw [Array.mapM_eq_mapM_toList, map_eq_pure_bind, Sem.run_bind, h1]
    rfl
  have h3 : results fn tmps = (do let vs ← fn.results.mapM (resVal tmps); pure (if h : vs.size = 1 then vs[0] else .tuple vs)) := rfl
  rw [h3]
  simp [Sem.run_bind, h2]
section
variable {n : Nat} {F0 Wr : Nat → Nat → Prop} {w0 : Base} {loc : Nat → Nat} {F : Nat → Nat → Prop} {σ : St E.A} {a : Act} {w : World} {Q : Exit → Act → World → Prop}
variable {ctx : Ctx E}
theorem ress_at {tt : TT} : ∀ {rvs : List ResultVar} {rs : List (TV E.A)}, ressOf tt σ rvs = some rs → rs.length = rvs.length ∧ ∀ (j : Nat) (rv : ResultVar), rvs[j]? = some rv → ∃ x, rs[j]? = some x ∧ resOf tt σ rv = some x
  | [], rs, h => by simp [ressOf] at h; subst h; simp
  | rv :: rvs, rs, h => by
    simp only [ressOf] at h
    split at h
    · rename_i x xs h1 h2
      injection h with h; subst h
      obtain ⟨l1, l2⟩ := ress_at h2
      refine ⟨by simp [l1], fun j rv' hj => ?_⟩
      cases j with
      | zero => simp at hj; subst hj; exact ⟨x, rfl, h1⟩
      | succ j => simpa using l2 j rv' (by simpa using hj)
    · cases h
theorem resKeys_nd : ∀ {rvs : List ResultVar}, nodupB (resKeys rvs) = true → ∀ (j j' : Nat) (t : Tmp), rvs[j]? = some (.tmp t) → rvs[j']? = some (.tmp t) → j = j'
  | [], _, j, j', t, h, _ => by simp at h
  | rv :: rvs, hn, j, j', t, h, h' => by
    have hmem : ∀ {l : List ResultVar} {j : Nat}, l[j]? = some (.tmp t) → t ∈ resKeys l := by
      intro l
      induction l with
      | nil => intro j h; simp at h
      | cons x l ih =>
        intro j h
        cases j with
        | zero => simp at h; subst h; simp [resKeys]
        | succ j => have := ih (j := j) (by simpa using h); cases x <;> simp [resKeys, this]
    have hn2 : nodupB (resKeys rvs) = true := by
      cases rv with
      | tmp s => simp only [resKeys, nodupB, Bool.and_eq_true] at hn; exact hn.2
      | cell s ty => exact hn
    cases j <;> cases j'
    · rfl
    · simp at h; subst h
      have := hmem (by simpa using h' : rvs[_]? = _)
      simp only [resKeys, nodupB, Bool.and_eq_true, Bool.not_eq_true', List.any_eq_false] at hn
      exact absurd (by simp) (hn.1 t this)
    · simp at h'; subst h'
      have := hmem (by simpa using h : rvs[_]? = _)
      simp only [resKeys, nodupB, Bool.and_eq_true, Bool.not_eq_true', List.any_eq_false] at hn
      exact absurd (by simp) (hn.1 t this)
    · rename_i p q
      rw [resKeys_nd hn2 p q t (by simpa using h) (by simpa using h')]
end
end Go.Rf
end
section
set_option linter.unusedSimpArgs false
set_option linter.unusedVariables false
namespace Go.Rf
open Go.RowKit
variable {E : Env} {P : Program}
section
variable {n : Nat} {F0 Wr : Nat → Nat → Prop} {w0 : Base} {loc : Nat → Nat} {F : Nat → Nat → Prop} {σ : St E.A} {a : Act} {w : World} {Q : Exit → Act → World → Prop}
variable {ctx : Ctx E}
theorem all2_of {α β : Type} {R : α → β → Prop} : ∀ (as : List α), (∀ x ∈ as, ∃ y, R x y) → ∃ bs, All2 R as bs
  | [], _ => ⟨[], trivial⟩
  | x :: as, h => by
    obtain ⟨y, hy⟩ := h x List.mem_cons_self
    obtain ⟨bs, hb⟩ := all2_of as (fun z hz => h z (List.mem_cons_of_mem _ hz))
    exact ⟨y :: bs, hy, hb⟩
/-- The function's end. -/
theorem leave_ok (hcn : ctx.n = n) (h : Rel n F0 Wr w0 loc F σ a w) (htt : TTOk P E ctx.tt) {fn : Func} {k : Nat} {e : Ex} {r : List (TV E.A) × List (RV E.A)} (hrl : fn.results.size ≤ 1000000) (hr : (leave ctx fn k (e, σ)).reach r) :
    (e = .normal ∨ e = .ret) ∧ ∃ v, (results fn a.tmps).run P w = .ok v w ∧ CameBack F0 Wr w0 r v w := by
  unfold leave at hr
  have hex : e = .normal ∨ e = .ret := by
    cases e with
    | normal => exact .inl rfl
    | ret => exact .inr rfl
    | exit id => simp [Tree.reach] at hr
  refine ⟨hex, ?_⟩
  have hr : (match ressOf ctx.tt σ fn.results.toList with
    | some rs => bif nodupB (resKeys fn.results.toList) && fn.results.toList.all (resIn ctx.n) && rs.all TV.plain && ((List.range k).map fun j => get σ (bk j)).all RV.plain && ((List.range k).map fun j => get σ (bk j)).all RV.isBlk then Tree.leaf (rs, (List.range k).map fun j => get σ (bk j)) else .fail
    | none => .fail).reach r := by rcases hex with rfl | rfl <;> exact hr
  split at hr
  · rename_i rs hrs
    cases hb : (nodupB (resKeys fn.results.toList) && fn.results.toList.all (resIn ctx.n) && rs.all TV.plain && ((List.range k).map fun j => get σ (bk j)).all RV.plain && ((List.range k).map fun j => get σ (bk j)).all RV.isBlk) with
    | false => rw [hb] at hr; simp [Tree.reach] at hr
    | true =>
      rw [hb] at hr
      simp only [cond_true, Tree.reach] at hr
      subst hr
      simp only [Bool.and_eq_true] at hb
      obtain ⟨⟨⟨⟨b1, b2⟩, b3⟩, b4⟩, _⟩ := hb
      obtain ⟨l1, l2⟩ := ress_at hrs
      have hin : ∀ rv ∈ fn.results.toList, resIn ctx.n rv = true := List.all_eq_true.1 b2
      have hone : ∀ rv ∈ fn.results.toList, ∀ x, resOf ctx.tt σ rv = some x → ∃ v, (resVal a.tmps rv).run P w = .ok v w ∧ (x.names = [] → TVR loc F w x v) ∧ ∀ i xs, x = .leaf ⟨.sl i, xs⟩ true → ∃ t, rv = .tmp t ∧ get σ t = .v x ∧ v = a.tmps.getD t undef := by
        intro rv hrv x hx
        have := hin rv hrv
        refine res_ok h htt hx (fun t e => ?_) (fun t ty e => ?_)
        · subst e; rw [← hcn]; exact blt_iff.1 this
        · subst e; rw [← hcn]; exact blt_iff.1 this
      obtain ⟨vs, hvs⟩ := all2_of (R := fun rv v => (resVal a.tmps rv).run P w = .ok v w) fn.results.toList (fun rv hrv => by
        obtain ⟨j, hj⟩ := List.getElem?_of_mem hrv
        obtain ⟨x, _, hx⟩ := l2 j rv hj
        obtain ⟨v, hv, _⟩ := hone rv hrv x hx
        exact ⟨v, hv⟩)
      have hlen : vs.length = rs.length := by rw [← hvs.len, l1]
      have hat : ∀ (j : Nat) (x : TV E.A), rs[j]? = some x → ∃ rv, fn.results.toList[j]? = some rv ∧ TVR loc F w x (vs.toArray.getD j undef) ∧ x.names = [] ∧ ∀ i xs, x = .leaf ⟨.sl i, xs⟩ true → ∃ t, rv = .tmp t ∧ get σ t = .v x ∧ vs.toArray.getD j undef = a.tmps.getD t undef := by
        intro j x hx
        have hj : j < fn.results.toList.length := by rw [← l1]; exact (List.getElem?_eq_some_iff.1 hx).1
        have hrv : fn.results.toList[j]? = some fn.results.toList[j] := List.getElem?_eq_getElem hj
        obtain ⟨x', e1, e2⟩ := l2 j _ hrv
        rw [hx] at e1; injection e1 with e1; subst e1
        obtain ⟨v, hv, hv2⟩ := hvs.get hrv
        obtain ⟨v', g1, g2, g3⟩ := hone _ (List.getElem_mem hj) x e2
        have hvv : v = v' := by rw [hv2] at g1; injection g1
        subst hvv
        have hpl := plain_names (List.all_eq_true.1 b3 x (List.mem_of_getElem? hx))
        have hd : vs.toArray.getD j undef = v := by simp [Array.getD_eq_getD_getElem?, hv]
        rw [hd]
        exact ⟨_, hrv, g2 hpl, hpl, g3⟩
      refine ⟨_, results_run hvs, loc, F, vs.toArray, ?_, ?_⟩
      · by_cases h1 : vs.toArray.size = 1
        · left
          have : rs.length = 1 := by rw [← hlen]; simpa using h1
          obtain ⟨r, hr⟩ := List.length_eq_one_iff.1 this
          obtain ⟨v, hv⟩ := List.length_eq_one_iff.1 (show vs.length = 1 by simpa using h1)
          subst hv
          exact ⟨r, hr, by simp⟩
        · right
          refine ⟨by rw [← hlen]; simpa using h1, by rw [dif_neg h1]⟩
      · refine h.final (T := fun j t => fn.results.toList[j]? = some (.tmp t)) (by rw [l1]; simpa using hrl) (by simpa using hlen) (fun j r hj => ?_) (fun j i xs hj => ?_) (fun j j' t h1 h2 => resKeys_nd b1 j j' t h1 h2) (fun j v hj => ?_)
        · obtain ⟨_, _, g1, g2, _⟩ := hat j r hj; exact ⟨g1, g2⟩
        · obtain ⟨rv, hrv, _, _, g3⟩ := hat j _ hj
          obtain ⟨t, rfl, g4, g5⟩ := g3 i xs rfl
          refine ⟨t, hrv, ?_, g4, g5⟩
          have := hin _ (List.mem_of_getElem? hrv)
          rw [← hcn]; exact blt_iff.1 this
        · refine ⟨?_, plain_namesR (List.all_eq_true.1 b4 v (List.mem_of_getElem? hj))⟩
          rw [List.getElem?_map] at hj
          obtain ⟨j', hj', e⟩ := Option.map_eq_some_iff.1 hj
          obtain ⟨_, e2⟩ := List.getElem?_eq_some_iff.1 hj'
          rw [List.getElem_range] at e2
          subst e2; exact e.symm
  · simp [Tree.reach] at hr
/-- A function with a body does what its run says. -/
theorem fn_ok (hc : CtxOk P ctx) (hm : P.follows .mixedOrders = true) {f : FuncId} {fn : Func} {c : Code} (hf : P.funcs[f]? = some fn) (hname : (fn.name == "runtime.NumGoroutine") = false) (hb : fn.body = some c) (hl : LoopsOk P ctx c)
    (hn : ctx.n = fn.ntmps) (hle : fn.ntmps ≤ 1000000) (hk : ctx.np ≤ fn.ntmps) (hrl : fn.results.size ≤ 1000000) {s : Spec E}
    (law : ∀ xs vs r, (s.run xs vs).reach r → xs.length = ctx.np ∧ (fnRun ctx fn c xs vs).reach r) : SpecOk P f s := by
  intro xs vs r args w loc F Wr hx hv hrel hr
  obtain ⟨hxn, hrun⟩ := law xs vs r hr
  have hargs : args.size = ctx.np := by rw [← hx, hxn]
  intro o a next Q hnext
  have hcall : (callFunc f args).run P w = .ok (.enter f args) w := by
    unfold callFunc
    simp only [Sem.run_bind, run_program, Result.andThen_ok, hf, hname, hb]
    simp
  rw [hcall]
  show Calls P f args w _
  refine calls_of_wp hf hb ?_
  unfold fnRun at hrun
  obtain ⟨⟨e, τ⟩, h1, h2⟩ := Tree.reach_bind.1 hrun
  have hg : Goal ctx.n F Wr ⟨w, args.size, loc⟩ (begin_ xs vs) ⟨args ++ Array.replicate (fn.ntmps - args.size) undef, []⟩ w := by
    rw [hn]
    exact ⟨loc, F, hrel.grow hx (by omega) hle⟩
  refine run_ok hc hm hargs c hl _ _ h1 _ _ _ hg (fun a' w' hg' => ?_)
  obtain ⟨loc', F', h'⟩ := hg'
  obtain ⟨he, v, g1, g2⟩ := leave_ok rfl h' hc.tt hrl h2
  have hpost : a'.defers = [] ∧ ∃ v, (results fn a'.tmps).run P w' = .ok v w' ∧ next (a.put o.dst v) w' := ⟨h'.defers, v, g1, hnext v w' g2⟩
  rcases he with rfl | rfl
  · exact hpost
  · exact hpost
end
end Go.Rf
end
section
namespace Go.Rf
/-! The program's data. -/
structure Cell where
  sheet : List UInt8
  col : Int
  row : Int
  deriving DecidableEq
structure Val where
  kind : Int
  n : Int
  s : List UInt8
  deriving DecidableEq
structure Tok where
  kind : Int
  at_ : Int
  text : List UInt8
  deriving DecidableEq
structure Shown where
  cell : Cell
  val : Val
  deriving DecidableEq
inductive Node where
  | mk (kind : Int) (op name : List UInt8) (val : Val) (cell to : Cell) (kids : List Node)
structure Entry where
  cell : Cell
  formula : Bool
  node : Node
  val : Val
def Cell.zero : Cell := ⟨[], 0, 0⟩
def Val.zero : Val := ⟨0, 0, []⟩
def Node.zero : Node := .mk 0 [] [] .zero .zero .zero []
def kindA : Nat → Type
  | 1 => Tok
  | 2 => Shown
  | 3 => Val
  | 4 => List Val
  | 5 => List UInt8
  | 6 => List (List UInt8)
  | 7 => Node
  | 8 => Int
  | 9 => Cell
  | 10 => Entry
  | _ => UInt8
abbrev Lf := Leaf kindA
def dfltA : (i : Nat) → kindA i
  | 0 => (0 : UInt8)
  | 1 => (⟨0, 0, []⟩ : Tok)
  | 2 => (⟨.zero, .zero⟩ : Shown)
  | 3 => Val.zero
  | 4 => ([] : List Val)
  | 5 => ([] : List UInt8)
  | 6 => ([] : List (List UInt8))
  | 7 => Node.zero
  | 8 => (0 : Int)
  | 9 => Cell.zero
  | 10 => (⟨.zero, false, .zero, .zero⟩ : Entry)
  | _ + 11 => (0 : UInt8)
def cellT : List LT := [.str, .int .i64, .int .i64]
def valT : List LT := [.int .i64, .int .i64, .str]
def nodeT : List LT := [.int .i64, .str, .str, .int .i64, .int .i64, .str, .str, .int .i64, .int .i64, .str, .int .i64, .int .i64, .sl 7]
def shapeA : Nat → List LT
  | 1 => [.int .i64, .int .i64, .str]
  | 2 => [.str, .int .i64, .int .i64, .int .i64, .int .i64, .str]
  | 3 => valT
  | 4 => [.sl 3]
  | 5 => [.str]
  | 6 => [.sl 5]
  | 7 => nodeT
  | 8 => [.int .i64]
  | 9 => cellT
  | 10 => [.str, .int .i64, .int .i64, .bool, .int .i64, .str, .str, .int .i64, .int .i64, .str, .str, .int .i64, .int .i64, .str, .int .i64, .int .i64, .sl 7, .int .i64, .int .i64, .str]
  | _ => [.int .u8]
def Cell.lv (c : Cell) : List Lf := [⟨.str, c.sheet⟩, ⟨.int .i64, c.col⟩, ⟨.int .i64, c.row⟩]
def Val.lv (v : Val) : List Lf := [⟨.int .i64, v.kind⟩, ⟨.int .i64, v.n⟩, ⟨.str, v.s⟩]
def Node.kids : Node → List Node
  | .mk _ _ _ _ _ _ ks => ks
def Node.kind : Node → Int
  | .mk k _ _ _ _ _ _ => k
def Node.op : Node → List UInt8
  | .mk _ o _ _ _ _ _ => o
def Node.name : Node → List UInt8
  | .mk _ _ n _ _ _ _ => n
def Node.val : Node → Val
  | .mk _ _ _ v _ _ _ => v
def Node.cell : Node → Cell
  | .mk _ _ _ _ c _ _ => c
def Node.to : Node → Cell
  | .mk _ _ _ _ _ t _ => t
def Node.lv (n : Node) : List Lf :=
  [⟨.int .i64, n.kind⟩, ⟨.str, n.op⟩, ⟨.str, n.name⟩, ⟨.int .i64, n.val.kind⟩, ⟨.int .i64, n.val.n⟩, ⟨.str, n.val.s⟩, ⟨.str, n.cell.sheet⟩, ⟨.int .i64, n.cell.col⟩, ⟨.int .i64, n.cell.row⟩,
    ⟨.str, n.to.sheet⟩, ⟨.int .i64, n.to.col⟩, ⟨.int .i64, n.to.row⟩, ⟨.sl 7, n.kids⟩]
def leavesA : (i : Nat) → kindA i → List Lf
  | 0, x => [⟨.int .u8, (UInt8.toNat x : Int)⟩]
  | 1, x => [⟨.int .i64, Tok.kind x⟩, ⟨.int .i64, Tok.at_ x⟩, ⟨.str, Tok.text x⟩]
  | 2, x => [⟨.str, (Shown.cell x).sheet⟩, ⟨.int .i64, (Shown.cell x).col⟩, ⟨.int .i64, (Shown.cell x).row⟩, ⟨.int .i64, (Shown.val x).kind⟩, ⟨.int .i64, (Shown.val x).n⟩, ⟨.str, (Shown.val x).s⟩]
  | 3, x => Val.lv x
  | 4, x => [⟨.sl 3, x⟩]
  | 5, x => [⟨.str, x⟩]
  | 6, x => [⟨.sl 5, x⟩]
  | 7, x => Node.lv x
  | 8, x => [⟨.int .i64, x⟩]
  | 9, x => Cell.lv x
  | 10, x => [⟨.str, (Entry.cell x).sheet⟩, ⟨.int .i64, (Entry.cell x).col⟩, ⟨.int .i64, (Entry.cell x).row⟩, ⟨.bool, Entry.formula x⟩,
      ⟨.int .i64, (Entry.node x).kind⟩, ⟨.str, (Entry.node x).op⟩, ⟨.str, (Entry.node x).name⟩, ⟨.int .i64, (Entry.node x).val.kind⟩, ⟨.int .i64, (Entry.node x).val.n⟩, ⟨.str, (Entry.node x).val.s⟩,
      ⟨.str, (Entry.node x).cell.sheet⟩, ⟨.int .i64, (Entry.node x).cell.col⟩, ⟨.int .i64, (Entry.node x).cell.row⟩, ⟨.str, (Entry.node x).to.sheet⟩, ⟨.int .i64, (Entry.node x).to.col⟩, ⟨.int .i64, (Entry.node x).to.row⟩, ⟨.sl 7, (Entry.node x).kids⟩,
      ⟨.int .i64, (Entry.val x).kind⟩, ⟨.int .i64, (Entry.val x).n⟩, ⟨.str, (Entry.val x).s⟩]
  | _ + 11, x => [⟨.int .u8, (UInt8.toNat x : Int)⟩]
def mkA : (i : Nat) → List Lf → Option (kindA i × Prop)
  | 0, [⟨.int .u8, x⟩] => some (UInt8.ofNat (Int.toNat x), (0 : Int) ≤ x ∧ (x : Int) < 256)
  | 1, [⟨.int .i64, a⟩, ⟨.int .i64, b⟩, ⟨.str, c⟩] => some ((⟨a, b, c⟩ : Tok), True)
  | 2, [⟨.str, a⟩, ⟨.int .i64, b⟩, ⟨.int .i64, c⟩, ⟨.int .i64, d⟩, ⟨.int .i64, e⟩, ⟨.str, f⟩] => some ((⟨⟨a, b, c⟩, ⟨d, e, f⟩⟩ : Shown), True)
  | 3, [⟨.int .i64, d⟩, ⟨.int .i64, e⟩, ⟨.str, f⟩] => some ((⟨d, e, f⟩ : Val), True)
  | 4, [⟨.sl 3, x⟩] => some (x, True)
  | 5, [⟨.str, x⟩] => some (x, True)
  | 6, [⟨.sl 5, x⟩] => some (x, True)
  | 7, [⟨.int .i64, k⟩, ⟨.str, o⟩, ⟨.str, m⟩, ⟨.int .i64, d⟩, ⟨.int .i64, e⟩, ⟨.str, f⟩, ⟨.str, a⟩, ⟨.int .i64, b⟩, ⟨.int .i64, c⟩, ⟨.str, a1⟩, ⟨.int .i64, b1⟩, ⟨.int .i64, c1⟩, ⟨.sl 7, ks⟩] =>
    some (Node.mk k o m ⟨d, e, f⟩ ⟨a, b, c⟩ ⟨a1, b1, c1⟩ ks, True)
  | 8, [⟨.int .i64, x⟩] => some (x, True)
  | 9, [⟨.str, a⟩, ⟨.int .i64, b⟩, ⟨.int .i64, c⟩] => some ((⟨a, b, c⟩ : Cell), True)
  | 10, [⟨.str, a0⟩, ⟨.int .i64, b0⟩, ⟨.int .i64, c0⟩, ⟨.bool, fm⟩, ⟨.int .i64, k⟩, ⟨.str, o⟩, ⟨.str, m⟩, ⟨.int .i64, d⟩, ⟨.int .i64, e⟩, ⟨.str, f⟩, ⟨.str, a⟩, ⟨.int .i64, b⟩, ⟨.int .i64, c⟩, ⟨.str, a1⟩, ⟨.int .i64, b1⟩, ⟨.int .i64, c1⟩, ⟨.sl 7, ks⟩, ⟨.int .i64, d1⟩, ⟨.int .i64, e1⟩, ⟨.str, f1⟩] =>
    some ((⟨⟨a0, b0, c0⟩, fm, Node.mk k o m ⟨d, e, f⟩ ⟨a, b, c⟩ ⟨a1, b1, c1⟩ ks, ⟨d1, e1, f1⟩⟩ : Entry), True)
  | _ + 11, [⟨.int .u8, x⟩] => some (UInt8.ofNat (Int.toNat x), (0 : Int) ≤ x ∧ (x : Int) < 256)
  | _, _ => none
def bytesA : Nat → Nat
  | 1 => 32
  | 2 => 64
  | 3 => 32
  | 4 => 24
  | 5 => 16
  | 6 => 24
  | 7 => 160
  | 8 => 8
  | 9 => 32
  | 10 => 232
  | _ => 1
theorem u8_mk {x : Int} (h : (0 : Int) ≤ x ∧ (x : Int) < 256) : ((UInt8.ofNat x.toNat).toNat : Int) = x := by
  rw [UInt8.toNat_ofNat']; omega
theorem leavesA_shape : ∀ i x, (leavesA i x).map (·.t) = shapeA i
  | 0, _ | 1, _ | 2, _ | 3, _ | 4, _ | 5, _ | 6, _ | 7, _ | 8, _ | 9, _ | 10, _ => rfl
  | _ + 11, _ => rfl
theorem leavesA_mk : ∀ i ls x p, mkA i ls = some (x, p) → p → leavesA i x = ls := by
  intro i ls x p h hp
  unfold mkA at h
  split at h
  case h_1 => injection h with h; injection h with h1 h2; subst h1; subst h2; simp only [leavesA]; rw [u8_mk hp]
  case h_12 => injection h with h; injection h with h1 h2; subst h1; subst h2; simp only [leavesA]; rw [u8_mk hp]
  case h_13 => cases h
  all_goals (injection h with h; injection h with h1 h2; subst h1; rfl)
abbrev envA (elem : Nat → TypeId) : Env where
  A := kindA
  dflt := dfltA
  shape := shapeA
  leaves := leavesA
  mkE := mkA
  elem := elem
  bytes := bytesA
  tbs := fun xs => xs
  fbs := fun xs => xs
  leaves_shape := leavesA_shape
  leaves_mk := leavesA_mk
  tbs_len := fun _ => rfl
  fbs_len := fun _ => rfl
  tbs_at := fun xs j x b h1 h2 => by have e : x = b := Option.some.inj ((show (_ : Option UInt8) = _ from h1).symm.trans h2); subst e; rfl
  fbs_at := fun xs j x b h1 h2 => by have e : x = b := Option.some.inj ((show (_ : Option UInt8) = _ from h1).symm.trans h2); subst e; rfl
  noptr := fun i t ht => by
    unfold shapeA at ht
    split at ht <;> simp [cellT, valT, nodeT] at ht <;> (repeat' (rcases ht with rfl | ht)) <;> (try subst ht) <;> simp
  some0 := fun i => by unfold shapeA; split <;> simp [cellT, valT, nodeT]
  shape0 := rfl
end Go.Rf
end
section
set_option linter.unusedSimpArgs false
set_option linter.unusedVariables false
namespace Go.Rf
open Go.RowKit
variable {E : Env} {P : Program}
/-! Ways through a tree. -/
namespace Tree
variable {α : Type} {x a : α} {b : Bool} {p : Prop} {t e : Tree α}
theorem reach_ite (h1 : b = true → t.reach x) (h2 : b = false → e.reach x) : (Tree.ite b t e).reach x := by
  cases b with
  | true => exact .inl ⟨rfl, h1 rfl⟩
  | false => exact .inr ⟨rfl, h2 rfl⟩
theorem reach_tt (h : t.reach x) : (Tree.ite true t e).reach x := .inl ⟨rfl, h⟩
theorem reach_ff (h : e.reach x) : (Tree.ite false t e).reach x := .inr ⟨rfl, h⟩
theorem reach_req (hp : p) (h : t.reach x) : (Tree.req p t).reach x := ⟨hp, h⟩
theorem of_tt (h : (Tree.ite true t e).reach x) : t.reach x := by rcases h with ⟨_, h⟩ | ⟨h, _⟩; exact h; cases h
theorem of_ff (h : (Tree.ite false t e).reach x) : e.reach x := by rcases h with ⟨h, _⟩ | ⟨_, h⟩; cases h; exact h
theorem of_eq {t' : Tree α} (e : t = t') (h : t.reach x) : t'.reach x := e ▸ h
theorem reach_of {t' : Tree α} (h : t = t') (h' : t'.reach x) : t.reach x := h ▸ h'
theorem reach_leaf (h : x = a) : (Tree.leaf a).reach x := h
end Tree
/-! What is said of functions. -/
def anys : Nat → List (RV E.A)
  | 0 => []
  | n + 1 => .any :: anys n
theorem anys_eq : ∀ n, (anys n : List (RV E.A)) = List.replicate n .any
  | 0 => rfl
  | n + 1 => by simp only [anys, anys_eq n, List.replicate_succ]
def isAnys : Nat → List (RV E.A) → Bool
  | 0, [] => true
  | n + 1, .any :: vs => isAnys n vs
  | _, _ => false
theorem isAnys_eq : ∀ {n : Nat} {vs : List (RV E.A)}, isAnys n vs = true → vs = anys n
  | 0, [], _ => rfl
  | n + 1, .any :: vs, h => by simp only [isAnys] at h; rw [isAnys_eq h]; rfl
  | 0, _ :: _, h => by simp [isAnys] at h
  | n + 1, [], h => by simp [isAnys] at h
  | n + 1, .kn _ :: _, h => by simp [isAnys] at h
  | n + 1, .und :: _, h => by simp [isAnys] at h
  | n + 1, .v _ :: _, h => by simp [isAnys] at h
  | n + 1, .tup _ _ :: _, h => by simp [isAnys] at h
  | n + 1, .eptr _ _ _ _ :: _, h => by simp [isAnys] at h
  | n + 1, .blk _ _ :: _, h => by simp [isAnys] at h
/-- A function that writes nothing that was there. -/
def pureSpec (n : Nat) (f : List (TV E.A) → Tree (List (TV E.A))) : Spec E :=
  ⟨[], fun xs vs => bif isAnys n vs then (f xs).bind fun rs => .leaf (rs, vs) else .fail⟩
theorem pureSpec_reach {n : Nat} {f : List (TV E.A) → Tree (List (TV E.A))} {xs : List (TV E.A)} {vs : List (RV E.A)} {r : List (TV E.A) × List (RV E.A)} (h : ((pureSpec n f).run xs vs).reach r) :
    vs = anys n ∧ r.2 = anys n ∧ (f xs).reach r.1 := by
  unfold pureSpec at h
  dsimp only at h
  cases hb : isAnys n vs with
  | false => rw [hb] at h; simp [Tree.reach] at h
  | true =>
    rw [hb] at h
    simp only [cond_true] at h
    obtain ⟨rs, h1, h2⟩ := Tree.reach_bind.1 h
    simp only [Tree.reach] at h2; subst h2
    exact ⟨isAnys_eq hb, isAnys_eq hb, h1⟩
/-! Loops of a text. -/
def loopsIn : Code → List (Nat × Code)
  | .seq a b => loopsIn a ++ loopsIn b
  | .cond _ t e => loopsIn t ++ loopsIn e
  | .block id c => match c with
    | .loop c => [(id, c)]
    | c => loopsIn c
  | _ => []
def findL : List (Nat × Code) → Nat → Code
  | [], _ => .skip
  | (k, c) :: l, id => bif Nat.beq k id then c else findL l id
/-- The body of one of the loops. -/
def lb (c : Code) (id : Nat) : Code := findL (loopsIn c) id
def codeOf (fn : Func) : Code := match fn.body with | some c => c | none => .skip
theorem loops_ok {ctx : Ctx E} : ∀ (c : Code), (∀ p ∈ loopsIn c, ∀ s, look ctx.loops p.1 = some s → LoopOk P ctx p.1 p.2 s) → LoopsOk P ctx c
  | .seq a b, h => ⟨loops_ok a fun p hp => h p (by simp [loopsIn, hp]), loops_ok b fun p hp => h p (by simp [loopsIn, hp])⟩
  | .cond _ a b, h => ⟨loops_ok a fun p hp => h p (by simp [loopsIn, hp]), loops_ok b fun p hp => h p (by simp [loopsIn, hp])⟩
  | .block id c, h => by
    by_cases hlp : ∃ b, c = .loop b
    · obtain ⟨b, rfl⟩ := hlp
      exact h (id, b) (by simp [loopsIn])
    · have e1 : LoopsOk P ctx (.block id c) = LoopsOk P ctx c := by cases c <;> first | rfl | exact absurd ⟨_, rfl⟩ hlp
      have e2 : loopsIn (.block id c) = loopsIn c := by cases c <;> first | rfl | exact absurd ⟨_, rfl⟩ hlp
      rw [e1]
      exact loops_ok c fun p hp => h p (by rw [e2]; exact hp)
  | .skip, _ | .region .., _ | .exit _, _ | .ret, _ | .loop _, _ | .rangeFunc .., _ | .scope _, _ | .label _, _ | .goto _, _ | .refuse _, _ => trivial
theorem no_loops {ctx : Ctx E} {c : Code} (h : loopsIn c = []) : LoopsOk P ctx c := loops_ok c fun p hp => by rw [h] at hp; cases hp
def LoopAll (P : Program) (ctx : Ctx E) (l : List (Nat × Code)) : Prop := ∀ p ∈ l, ∀ s, look ctx.loops p.1 = some s → LoopOk P ctx p.1 p.2 s
theorem LoopAll.nil {ctx : Ctx E} : LoopAll P ctx [] := fun p hp => by cases hp
theorem LoopAll.cons {ctx : Ctx E} {id : Nat} {c : Code} {l : List (Nat × Code)} {s : LoopSum E} (hs : look ctx.loops id = some s) (h : LoopOk P ctx id c s) (hl : LoopAll P ctx l) : LoopAll P ctx ((id, c) :: l) := by
  intro p hp s' hs'
  rcases List.mem_cons.1 hp with rfl | hp
  · rw [hs] at hs'; injection hs' with hs'; subst hs'; exact h
  · exact hl p hp s' hs'
theorem loops_by {ctx : Ctx E} {c : Code} {l : List (Nat × Code)} (e : loopsIn c = l) (h : LoopAll P ctx l) : LoopsOk P ctx c := loops_ok c (by rw [e]; exact h)
/-! Contexts. -/
def SpAll (P : Program) (l : List (Nat × Spec E)) : Prop := ∀ f s, look l f = some s → SpecOk P f s
theorem SpAll.nil : SpAll (E := E) P [] := fun f s h => by cases h
theorem SpAll.cons {f : Nat} {s : Spec E} {l : List (Nat × Spec E)} (h : SpecOk P f s) (hl : SpAll P l) : SpAll P ((f, s) :: l) := by
  intro f' s' h'
  simp only [look] at h'
  cases hb : Nat.beq f f' with
  | true => rw [hb] at h'; injection h' with h'; subst h'; obtain rfl := Nat.eq_of_beq_eq_true hb; exact h
  | false => rw [hb] at h'; exact hl f' s' h'
theorem specOk_no {f : Nat} : SpecOk P f (noSpec E) := by
  intro xs vs r args w loc F Wr _ _ _ hr
  simp [noSpec, Tree.reach] at hr
def dynOf (l : List (Nat × Spec E)) (f : Nat) : Spec E := (look l f).getD (noSpec E)
theorem dynOf_ok {l : List (Nat × Spec E)} (h : SpAll P l) (f : Nat) : SpecOk P f (dynOf l f) := by
  unfold dynOf
  cases hl : look l f with
  | none => exact specOk_no
  | some s => exact h f s hl
theorem ctx_ok {ctx : Ctx E} (tt : TTOk P E ctx.tt) (sp : SpAll P ctx.sp) (dyn : ∀ f, SpecOk P f (ctx.dyn f)) : CtxOk P ctx := ⟨tt, sp, dyn⟩
/-- The program at hand. -/
structure Base0 (P : Program) : Prop where
  mixed : P.follows .mixedOrders = true
theorem fn_pure {ctx : Ctx E} (hc : CtxOk P ctx) (hm : P.follows .mixedOrders = true) {f : FuncId} {fn : Func} {c : Code} (hf : P.funcs[f]? = some fn) (hname : (fn.name == "runtime.NumGoroutine") = false) (hb : fn.body = some c) (hl : LoopsOk P ctx c)
    (hn : ctx.n = fn.ntmps) (hle : fn.ntmps ≤ 1000000) (hk : ctx.np ≤ fn.ntmps) (hrl : fn.results.size ≤ 1000000) {F : List (TV E.A) → Tree (List (TV E.A))}
    (law : ∀ xs r, (F xs).reach r → xs.length = ctx.np ∧ (fnRun ctx fn c xs (anys ctx.np)).reach (r, anys ctx.np)) : SpecOk P f (pureSpec ctx.np F) := by
  refine fn_ok hc hm hf hname hb hl hn hle hk hrl fun xs vs r hr => ?_
  obtain ⟨rfl, h2, h3⟩ := pureSpec_reach hr
  obtain ⟨rs, vs'⟩ := r
  dsimp only at h2 h3
  subst h2
  exact law xs rs h3
/-! Bounded: for functions that call themselves. -/
def Spec.upto (s : Spec E) (μ : List (TV E.A) → List (RV E.A) → Nat) (k : Nat) : Spec E := ⟨s.own, fun xs vs => .req (μ xs vs < k) (s.run xs vs)⟩
theorem upto_ok {f : FuncId} {s : Spec E} (μ : List (TV E.A) → List (RV E.A) → Nat) (h : ∀ k, SpecOk P f (s.upto μ k)) : SpecOk P f s := by
  intro xs vs r args w loc F Wr h1 h2 h3 hr
  exact h (μ xs vs + 1) xs vs r args w loc F Wr h1 h2 h3 ⟨Nat.lt_succ_self _, hr⟩
theorem upto_zero {f : FuncId} {s : Spec E} {μ : List (TV E.A) → List (RV E.A) → Nat} : SpecOk P f (s.upto μ 0) := by
  intro xs vs r args w loc F Wr _ _ _ hr
  exact absurd hr.1 (Nat.not_lt_zero _)
/-! To and from the kit's contracts. -/
theorem lands_of_calls {f : FuncId} {args : Array Value} {w : World} {R : Value → World → Prop} {fn : Func} {c : Code} (hf : P.funcs[f]? = some fn) (hname : (fn.name == "runtime.NumGoroutine") = false) (hb : fn.body = some c)
    (h : Calls P f args w fun e w' => ∃ v, e = .returned v ∧ R v w') : Lands P f args w R := by
  intro o a next Q hnext
  have hcall : (callFunc f args).run P w = .ok (.enter f args) w := by
    unfold callFunc
    simp only [Sem.run_bind, run_program, Result.andThen_ok, hf, hname, hb]
    simp
  rw [hcall]
  show Calls P f args w _
  refine h.mono ?_
  rintro e w' ⟨v, rfl, hr⟩
  exact hnext v w' hr
theorem calls_of_lands {f : FuncId} {args : Array Value} {w : World} {R : Value → World → Prop} {fn : Func} {c : Code} (hf : P.funcs[f]? = some fn) (hname : (fn.name == "runtime.NumGoroutine") = false) (hb : fn.body = some c)
    (h : Lands P f args w R) : Calls P f args w fun e w' => ∃ v, e = .returned v ∧ R v w' := by
  have hcall : (callFunc f args).run P w = .ok (.enter f args) w := by
    unfold callFunc
    simp only [Sem.run_bind, run_program, Result.andThen_ok, hf, hname, hb]
    simp
  have := h ⟨some 0, .move (.const .nilIface), 0, "", #[], none⟩ ⟨#[.nilIface], []⟩ (fun a' w' => ∃ v, a' = (⟨#[.nilIface], []⟩ : Act).put (some 0) v ∧ R v w') (fun _ _ _ => False) (fun v w' hr => ⟨v, rfl, hr⟩)
  rw [hcall] at this
  refine (show Calls P f args w _ from this).mono ?_
  intro e w' hh
  cases e with
  | returned v =>
    obtain ⟨v', e, hr⟩ := hh
    have : v = v' := by
      have := congrArg (fun a : Act => a.tmps.getD 0 undef) e
      simpa [Act.put] using this
    subst this
    exact ⟨v, rfl, hr⟩
  | panicked chain => exact False.elim hh
  | outgrown => exact False.elim (by simpa [LetsOut] using hh)
end Go.Rf
end
section
set_option linter.unusedSimpArgs false
set_option linter.unusedVariables false
namespace Go.Rf
open Go.RowKit
variable {E : Env} {P : Program}
/-- Behind a call that wrote nothing: what it answers. -/
theorem Rel.pureBack {F Wr : Nat → Nat → Prop} {w w' : World} {loc : Nat → Nat} {xs : List (TV E.A)} {n : Nat} {args : Array Value} (h : Rel args.size F Wr ⟨w, args.size, loc⟩ loc F (begin_ xs (anys n)) ⟨args, []⟩ w) (hb : Below w.heap.size w w')
    {rs : List (TV E.A)} {tmps : Array Value} (hle : rs.length ≤ 1000000) (hsz : tmps.size = rs.length) (hs : ∀ (j : Nat) (r : TV E.A), rs[j]? = some r → TVR loc F w' r (tmps.getD j undef) ∧ r.names = [] ∧ (RV.v r).free)
    (hx : xs.length = args.size) : Rel rs.length F Wr ⟨w, args.size, loc⟩ loc F (begin_ rs (anys n)) ⟨tmps, []⟩ w' := by
  have hmv : Mv F w F w' := fun g o u hf hc => ⟨by rw [hb.cell (World.block_lt_of_cell? w ⟨g, o, none⟩ hc)]; exact hc, hf⟩
  have hlt : ∀ r k i ys u g, Hold loc args.size (begin_ xs (anys n)) ⟨args, []⟩ w r k i ys u → u.ownBlock = some g → g < w.heap.size := by
    intro r k i ys u g hh hg
    obtain ⟨⟨us, ho⟩, _⟩ := h.own _ _ _ _ _ hh
    exact (ho.lt _ hg).2
  have hany : ∀ b, get (begin_ xs (anys n)) (bk b) = .any := by
    intro b
    rw [get_begin_bk (by rw [hx]; exact h.n_le)]
    rw [anys_eq, List.getD_eq_getElem?_getD, List.getElem?_replicate]
    split <;> rfl
  have h2 : Rel args.size F Wr ⟨w, args.size, loc⟩ loc F (begin_ xs (anys n)) ⟨args, []⟩ w' := by
    refine h.world hmv (fun r k i ys u g hh hg => ⟨hb.block g (hlt r k i ys u g hh hg), fun o hlo => ((h.own r k i ys u hh).2 g hg o hlo).1⟩) (fun b ty cells hg => ?_) (h.keep.trans (Keep.below hb) (fun _ _ _ hw => hw)) (fun g o hf => Nat.lt_of_lt_of_le (h.dom g o hf) hb.size) h.old h.still
    rw [hany] at hg; cases hg
  refine h2.final (T := fun _ _ => False) hle hsz (fun j r hj => ⟨(hs j r hj).1, (hs j r hj).2.1⟩) (fun j i ys hj => ?_) (fun _ _ _ f => f.elim) (fun j v hj => ?_)
  · have := (hs j _ hj).2.2
    simp [RV.free] at this
  · rw [anys_eq, List.getElem?_replicate] at hj
    split at hj
    · injection hj with hj; subst hj; exact ⟨(hany j).symm, rfl⟩
    · cases hj
/-- A contract of the kit's, as what is said of a function. -/
theorem pure_of_calls {f : FuncId} {fn : Func} {c : Code} (hf : P.funcs[f]? = some fn) (hname : (fn.name == "runtime.NumGoroutine") = false) (hb : fn.body = some c) {n : Nat} {F : List (TV E.A) → Tree (List (TV E.A))}
    (h : ∀ xs r, (F xs).reach r → xs.length = n ∧ r.length ≤ 1000000 ∧ ∀ (args : Array Value) (w : World) (loc : Nat → Nat) (Fr : Nat → Nat → Prop), args.size = n → (∀ (j : Nat) (x : TV E.A), xs[j]? = some x → TVR loc Fr w x (args.getD j undef)) →
      Calls P f args w fun e w' => ∃ tmps v, e = .returned v ∧ outs r tmps v ∧ tmps.size = r.length ∧ Below w.heap.size w w' ∧ ∀ (j : Nat) (y : TV E.A), r[j]? = some y → TVR loc Fr w' y (tmps.getD j undef) ∧ y.names = [] ∧ (RV.v y).free) : SpecOk P f (pureSpec n F) := by
  intro xs vs r args w loc Fr Wr hx hv hrel hr
  obtain ⟨rfl, h2, h3⟩ := pureSpec_reach hr
  obtain ⟨rs, vs'⟩ := r
  dsimp only at h2 h3
  subst h2
  obtain ⟨hn, hle, hc⟩ := h xs rs h3
  refine lands_of_calls hf hname hb ((hc args w loc Fr (by rw [← hx, hn]) (fun j x hj => ?_)).mono ?_)
  · have hlt : j < xs.length := (List.getElem?_eq_some_iff.1 hj).1
    have := hrel.slot j (by rw [← hx]; exact hlt)
    rw [get_begin_slot hj] at this
    exact this
  · rintro e w' ⟨tmps, v, rfl, ho, hs, hbel, hall⟩
    exact ⟨v, rfl, loc, Fr, tmps, ho, hrel.pureBack hbel hle hs hall hx⟩
/-! Values at hand. -/
theorem tvr_str {loc : Nat → Nat} {F : Nat → Nat → Prop} {w : World} {s : List UInt8} {o : Bool} {v : Value} : TVR (E := E) loc F w (.leaf ⟨.str, s⟩ o) v ↔ v = .string ⟨s.toArray⟩ := by
  constructor
  · rintro ⟨n, h⟩
    cases n with
    | zero => simp [VR] at h
    | succ n => simpa [VR] using h
  · rintro rfl; exact ⟨1, rfl⟩
theorem tvr_int {loc : Nat → Nat} {F : Nat → Nat → Prop} {w : World} {k : IntKind} {x : Int} {o : Bool} {v : Value} : TVR (E := E) loc F w (.leaf ⟨.int k, x⟩ o) v ↔ v = .int k x := by
  constructor
  · rintro ⟨n, h⟩
    cases n with
    | zero => simp [VR] at h
    | succ n => simpa [VR] using h
  · rintro rfl; exact ⟨1, rfl⟩
theorem tvr_bool {loc : Nat → Nat} {F : Nat → Nat → Prop} {w : World} {x : Bool} {o : Bool} {v : Value} : TVR (E := E) loc F w (.leaf ⟨.bool, x⟩ o) v ↔ v = .bool x := by
  constructor
  · rintro ⟨n, h⟩
    cases n with
    | zero => simp [VR] at h
    | succ n => simpa [VR] using h
  · rintro rfl; exact ⟨1, rfl⟩
end Go.Rf
namespace Go.Rf
open Go.RowKit
variable {E : Env} {P : Program}
/-! A function's frame, held by a run. -/
def fnB (ctx : Ctx E) (fn : Func) : Bool :=
  !(fn.name == "runtime.NumGoroutine") && fn.body.isSome && Nat.beq ctx.n fn.ntmps && Nat.ble fn.ntmps 1000000 && Nat.ble ctx.np fn.ntmps && Nat.ble fn.results.size 1000000
theorem fnB_ok {ctx : Ctx E} {fn : Func} (h : fnB ctx fn = true) : (fn.name == "runtime.NumGoroutine") = false ∧ fn.body = some (codeOf fn) ∧ ctx.n = fn.ntmps ∧ fn.ntmps ≤ 1000000 ∧ ctx.np ≤ fn.ntmps ∧ fn.results.size ≤ 1000000 := by
  unfold fnB at h
  simp only [Bool.and_eq_true, Bool.not_eq_true'] at h
  obtain ⟨⟨⟨⟨⟨h1, h2⟩, h3⟩, h4⟩, h5⟩, h6⟩ := h
  refine ⟨h1, ?_, Nat.eq_of_beq_eq_true h3, Nat.le_of_ble_eq_true h4, Nat.le_of_ble_eq_true h5, Nat.le_of_ble_eq_true h6⟩
  unfold codeOf
  cases hb : fn.body with
  | none => rw [hb] at h2; cases h2
  | some c => rfl
theorem fnOk {ctx : Ctx E} (hc : CtxOk P ctx) (hm : P.follows .mixedOrders = true) {f : FuncId} {fn : Func} (hf : P.funcs[f]? = some fn) (hB : fnB ctx fn = true) (hl : LoopAll P ctx (loopsIn (codeOf fn))) {s : Spec E}
    (law : ∀ xs vs r, (s.run xs vs).reach r → xs.length = ctx.np ∧ (fnRun ctx fn (codeOf fn) xs vs).reach r) : SpecOk P f s := by
  obtain ⟨h1, h2, h3, h4, h5, h6⟩ := fnB_ok hB
  exact fn_ok hc hm hf h1 h2 (loops_ok _ hl) h3 h4 h5 h6 law
theorem pureOk {ctx : Ctx E} (hc : CtxOk P ctx) (hm : P.follows .mixedOrders = true) {f : FuncId} {fn : Func} (hf : P.funcs[f]? = some fn) (hB : fnB ctx fn = true) (hl : LoopAll P ctx (loopsIn (codeOf fn))) {n : Nat} {F : List (TV E.A) → Tree (List (TV E.A))} (hn : ctx.np = n)
    (law : ∀ xs r, (F xs).reach r → xs.length = n ∧ (fnRun ctx fn (codeOf fn) xs (anys n)).reach (r, anys n)) : SpecOk P f (pureSpec n F) := by
  obtain ⟨h1, h2, h3, h4, h5, h6⟩ := fnB_ok hB
  subst hn
  exact fn_pure hc hm hf h1 h2 (loops_ok _ hl) h3 h4 h5 h6 law
theorem no_loop {ctx : Ctx E} {c : Code} (h : loopsIn c = []) : LoopAll P ctx (loopsIn c) := by rw [h]; exact LoopAll.nil
theorem one_loop {ctx : Ctx E} {c : Code} {id : Nat} {s : LoopSum E} (h : loopsIn c = [(id, lb c id)]) (hs : look ctx.loops id = some s) (ho : LoopOk P ctx id (lb c id) s) : LoopAll P ctx (loopsIn c) := by rw [h]; exact LoopAll.cons hs ho LoopAll.nil
theorem two_loops {ctx : Ctx E} {c : Code} {id id' : Nat} {s s' : LoopSum E} (h : loopsIn c = [(id, lb c id), (id', lb c id')]) (hs : look ctx.loops id = some s) (ho : LoopOk P ctx id (lb c id) s) (hs' : look ctx.loops id' = some s') (ho' : LoopOk P ctx id' (lb c id') s') : LoopAll P ctx (loopsIn c) := by
  rw [h]; exact LoopAll.cons hs ho (LoopAll.cons hs' ho' LoopAll.nil)
theorem loopOk {ctx : Ctx E} (hc : CtxOk P ctx) (hm : P.follows .mixedOrders = true) {id : Nat} {c : Code} (hl : LoopAll P ctx (loopsIn c)) {s : LoopSum E} (μ : List (RV E.A) → Nat)
    (law : ∀ vs r, (s.run vs).reach r → ∃ r1, (bodyRun ctx s.live c vs).reach r1 ∧ Onward s id μ vs r r1) : LoopOk P ctx id c s := loop_rule hc hm (loops_ok _ hl) μ law
/-- What a function answers need not be told as its own. -/
theorem unown_ok {f : FuncId} {s s' : Spec E} (h : SpecOk P f s) (ho : s.own = s'.own) (law : ∀ xs vs r, (s'.run xs vs).reach r → ∃ r0, (s.run xs vs).reach (r0, r.2) ∧ r.1 = r0.map TV.un ∧ r0.length ≤ 1000000 ∧ (∀ x ∈ r0, x.names = []) ∧ ∀ v ∈ r.2, v.names = []) : SpecOk P f s' := by
  intro xs vs r args w loc F Wr hx hv hrel hr
  obtain ⟨r0, h1, h2, h3, h4, h5⟩ := law xs vs r hr
  obtain ⟨rs, vs'⟩ := r
  dsimp only at h1 h2 h5
  subst h2
  intro o a next Q hnext
  refine h xs vs (r0, vs') args w loc F Wr hx hv hrel h1 o a next Q fun v w' hc => hnext v w' ?_
  obtain ⟨loc', F', tmps, ho, hr'⟩ := hc
  refine ⟨loc', F', tmps, ?_, ?_⟩
  · rcases ho with ⟨x, e1, e2⟩ | ⟨e1, e2⟩
    · refine .inl ⟨x.un, ?_, e2⟩
      have e1 : r0 = [x] := e1
      subst e1; rfl
    · exact .inr ⟨by simpa using e1, e2⟩
  · have hsz := hr'.size
    refine hr'.final (rs := r0.map TV.un) (vs := vs') (T := fun _ _ => False) (by simpa using h3) (by simpa using hsz) (fun j x hj => ?_) (fun j i xs hj => ?_) (fun _ _ _ f => f.elim) (fun j v hj => ?_)
    · rw [List.getElem?_map] at hj
      obtain ⟨y, hy, rfl⟩ := Option.map_eq_some_iff.1 hj
      have hl : j < r0.length := (List.getElem?_eq_some_iff.1 hy).1
      have := hr'.slot j hl
      rw [get_begin_slot hy] at this
      exact ⟨TVR_un this, by have e := h4 y (List.mem_of_getElem? hy); cases y <;> exact e⟩
    · rw [List.getElem?_map] at hj
      obtain ⟨y, hy, e⟩ := Option.map_eq_some_iff.1 hj
      cases y with
      | leaf l o => simp only [TV.un] at e; injection e with _ e; cases e
      | agg ls => cases e
    · refine ⟨?_, h5 v (List.mem_of_getElem? hj)⟩
      rw [get_begin_bk (by simpa using h3), List.getD_eq_getElem?_getD, hj]; rfl
theorem anys_names {n : Nat} : ∀ v ∈ (anys n : List (RV E.A)), v.names = [] := by
  intro v hv
  rw [anys_eq] at hv
  obtain ⟨_, rfl⟩ := List.mem_replicate.1 hv
  rfl
/-- As 'pureOk', what is answered being nobody's own. -/
theorem pureOkU {ctx : Ctx E} (hc : CtxOk P ctx) (hm : P.follows .mixedOrders = true) {f : FuncId} {fn : Func} (hf : P.funcs[f]? = some fn) (hB : fnB ctx fn = true) (hl : LoopAll P ctx (loopsIn (codeOf fn))) {n : Nat} {F : List (TV E.A) → Tree (List (TV E.A))} (hn : ctx.np = n)
    (law : ∀ xs r, (F xs).reach r → xs.length = n ∧ ∃ r0, (fnRun ctx fn (codeOf fn) xs (anys n)).reach (r0, anys n) ∧ r = r0.map TV.un) : SpecOk P f (pureSpec n F) := by
  have h := fnOk hc hm hf hB hl (s := ⟨[], fun xs vs => bif isAnys n vs && Nat.beq xs.length n then fnRun ctx fn (codeOf fn) xs vs else .fail⟩) (fun xs vs r hr => by
    dsimp only at hr
    cases hb : (isAnys n vs && Nat.beq xs.length n) with
    | false => rw [hb] at hr; simp [Tree.reach] at hr
    | true =>
      rw [hb] at hr
      simp only [Bool.and_eq_true] at hb
      exact ⟨by rw [hn]; exact Nat.eq_of_beq_eq_true hb.2, hr⟩)
  refine unown_ok h rfl fun xs vs r hr => ?_
  obtain ⟨rfl, h2, h3⟩ := pureSpec_reach hr
  obtain ⟨hx, r0, h4, h5⟩ := law xs r.1 h3
  have hpl : r0.length ≤ 1000000 ∧ ∀ x ∈ r0, x.names = [] := by
    unfold fnRun at h4
    obtain ⟨⟨e, τ⟩, _, h6⟩ := Tree.reach_bind.1 h4
    unfold leave at h6
    have key : (match ressOf ctx.tt τ fn.results.toList with
      | some rs =>
        let vs := (List.range (anys n : List (RV E.A)).length).map fun j => get τ (bk j)
        bif nodupB (resKeys fn.results.toList) && fn.results.toList.all (resIn ctx.n) && rs.all TV.plain && vs.all RV.plain && vs.all RV.isBlk then Tree.leaf (rs, vs) else .fail
      | none => .fail).reach (r0, anys n) := by
      cases e with
      | normal => exact h6
      | ret => exact h6
      | exit id => simp [Tree.reach] at h6
    split at key
    · rename_i rs hrs
      dsimp only at key
      cases hb : (nodupB (resKeys fn.results.toList) && fn.results.toList.all (resIn ctx.n) && rs.all TV.plain && (List.map (fun j => get τ (bk j)) (List.range (anys n : List (RV E.A)).length)).all RV.plain && (List.map (fun j => get τ (bk j)) (List.range (anys n : List (RV E.A)).length)).all RV.isBlk) with
      | true =>
        rw [hb] at key
        simp only [Bool.and_eq_true] at hb
        simp only [cond_true, Tree.reach] at key
        injection key with k1 k2
        subst k1
        obtain ⟨l1, _⟩ := ress_at hrs
        refine ⟨?_, fun x hx => plain_names (List.all_eq_true.1 hb.1.1.2 x hx)⟩
        have := (fnB_ok hB).2.2.2.2.2
        rw [l1]; simpa using this
      | false => rw [hb] at key; simp [Tree.reach] at key
    · simp [Tree.reach] at key
  refine ⟨r0, ?_, h5, hpl.1, hpl.2, by rw [h2]; exact anys_names⟩
  rw [h2]
  have : isAnys n (anys n : List (RV E.A)) = true := by
    clear law hl hB hr h2 h3 h4 h5 hpl h hn hx
    induction n with
    | zero => rfl
    | succ n ih => exact ih
  show (bif isAnys n (anys n) && Nat.beq xs.length n then fnRun ctx fn (codeOf fn) xs (anys n) else .fail).reach _
  rw [this, hx]
  simpa using h4
end Go.Rf
end
section
set_option linter.unusedSimpArgs false
set_option linter.unusedVariables false
namespace Go.Rf
open Go.RowKit
/-! The table of types, held against the program by a run. -/
section
variable (P : Program) (E : Env)
def zeroB : LT → Value → Bool
  | .int k, .int k' n => decide (k = k') && n == 0
  | .bool, .bool b => !b
  | .str, .string s => s.data.toList.isEmpty
  | .sl _, .slice none 0 0 => true
  | .err, .nilIface => true
  | .fn, .nilFunc => true
  | .ptr, .pointer none => true
  | .self, .pointer none => true
  | _, _ => false
def elemB (i : Nat) : Bool :=
  match P.info? (E.elem i) with
  | some info => Nat.beq info.size (sz E i) && Nat.beq info.bytes (E.bytes i) && Nat.blt 0 (E.bytes i) && (match info.zero with | some z => Nat.beq z.cells.size (sz E i) | none => false)
  | none => false
def descB : LT → TypeDesc → Bool
  | .int k, .int k' => decide (k = k')
  | .bool, .bool => true
  | .str, .string => true
  | .sl i, .slice e => Nat.beq e (E.elem i) && elemB P E i && (!(Nat.beq i 0) || match P.underlying (E.elem 0) with | some (.int .u8) => true | _ => false)
  | .err, .interface _ => true
  | .fn, .func _ _ _ => true
  | .ptr, .pointer _ => true
  | _, _ => false
def zerosB : List LT → List Value → Bool
  | [], [] => true
  | l :: ls, v :: vs => zeroB l v && zerosB ls vs
  | _, _ => false
def fieldsB : List (Nat × TypeId) → List Field → Bool
  | [], [] => true
  | p :: ps, f :: fs => Nat.beq p.1 f.offset && Nat.beq p.2 f.type && fieldsB ps fs
  | _, _ => false
def tyB (t : TypeId) : Ty → Bool
  | .leaf l => match P.underlying t, P.info? t with
    | some d, some info => descB P E l d && Nat.beq info.size 1 && (match info.zero with | some z => zeroB l z | none => false)
    | _, _ => false
  | .agg ls fs => match P.underlying t, P.info? t with
    | some (.struct flds), some info => Nat.beq info.size ls.length && (match info.zero with | some (.agg zs) => zerosB ls zs.toList | _ => false) && fieldsB fs flds.toList &&
        flds.toList.all (fun f => match P.info? f.type with | some fi => !(Nat.beq fi.size 0) | none => false) && !(P.stoodInHeld t) && !(P.eqGuardType P.depth t) && flds.toList.all (fun f => !(f.name == "_"))
    | _, _ => false
def ttB (tt : TT) : Bool := tt.all fun p => tyB P E p.1 p.2
end
variable {P : Program} {E : Env}
theorem nbeq {a b : Nat} (h : Nat.beq a b = true) : a = b := Nat.eq_of_beq_eq_true h
theorem zeroB_ok {l : LT} {v : Value} (h : zeroB l v = true) : zeroOk l v := by
  unfold zeroB at h
  split at h
  · simp only [Bool.and_eq_true, decide_eq_true_eq, beq_iff_eq] at h
    obtain ⟨rfl, rfl⟩ := h; rfl
  · rename_i b
    cases b with
    | false => rfl
    | true => simp at h
  · rename_i s
    obtain ⟨⟨l⟩⟩ := s
    cases l with
    | nil => rfl
    | cons => simp at h
  all_goals first | rfl | cases h
theorem zerosB_ok : ∀ {ls : List LT} {vs : List Value}, zerosB ls vs = true → All2 zeroOk ls vs
  | [], [], _ => trivial
  | _ :: _, _ :: _, h => by
    simp only [zerosB, Bool.and_eq_true] at h
    exact ⟨zeroB_ok h.1, zerosB_ok h.2⟩
  | [], _ :: _, h => by simp [zerosB] at h
  | _ :: _, [], h => by simp [zerosB] at h
theorem fieldsB_ok : ∀ {ps : List (Nat × TypeId)} {fs : List Field}, fieldsB ps fs = true → fs.map (fun f => (f.offset, f.type)) = ps
  | [], [], _ => rfl
  | p :: ps, f :: fs, h => by
    simp only [fieldsB, Bool.and_eq_true] at h
    obtain ⟨⟨h1, h2⟩, h3⟩ := h
    rw [List.map_cons, fieldsB_ok h3, ← nbeq h1, ← nbeq h2]
  | [], _ :: _, h => by simp [fieldsB] at h
  | _ :: _, [], h => by simp [fieldsB] at h
theorem elemB_ok {i : Nat} (h : elemB P E i = true) : ElemOk P E i := by
  unfold elemB at h
  split at h
  · rename_i info hi
    simp only [Bool.and_eq_true] at h
    obtain ⟨⟨⟨h1, h2⟩, h3⟩, h4⟩ := h
    split at h4
    · rename_i z hz
      exact ⟨info, z, hi, nbeq h1, nbeq h2, hz, nbeq h4, blt_iff.1 h3⟩
    · cases h4
  · cases h
theorem descB_ok {l : LT} {d : TypeDesc} (h : descB P E l d = true) : descOk P E l d := by
  unfold descB at h
  split at h
  · simp only [decide_eq_true_eq] at h; subst h; rfl
  · rfl
  · rfl
  · simp only [Bool.and_eq_true] at h
    obtain ⟨⟨h1, h2⟩, h3⟩ := h
    refine ⟨by rw [nbeq h1], elemB_ok h2, ?_⟩
    rintro rfl
    simp only [Nat.beq_refl, Bool.not_true, Bool.false_or] at h3
    split at h3
    · rename_i e; exact e
    · cases h3
  · exact ⟨_, rfl⟩
  · exact ⟨_, _, _, rfl⟩
  · exact ⟨_, rfl⟩
  · cases h
theorem tyB_ok {t : TypeId} {ty : Ty} (h : tyB P E t ty = true) : TyOk P E t ty := by
  cases ty with
  | leaf l =>
    simp only [tyB] at h
    split at h
    · rename_i d info hd hi
      simp only [Bool.and_eq_true] at h
      obtain ⟨⟨h1, h2⟩, h3⟩ := h
      split at h3
      · rename_i z hz
        exact ⟨d, info, z, hd, descB_ok h1, hi, nbeq h2, hz, zeroB_ok h3⟩
      · cases h3
    · cases h
  | agg ls fs =>
    simp only [tyB] at h
    split at h
    · rename_i flds info hd hi
      simp only [Bool.and_eq_true, Bool.not_eq_true'] at h
      obtain ⟨⟨⟨⟨⟨⟨h1, h2⟩, h3⟩, h4⟩, h5⟩, h6⟩, h7⟩ := h
      split at h2
      · rename_i zs hz
        refine ⟨flds, info, zs, hd, hi, nbeq h1, hz, zerosB_ok h2, fieldsB_ok h3, fun f hf => ?_, h5, h6, fun f hf e => ?_⟩
        · have := List.all_eq_true.1 h4 f hf
          split at this
          · rename_i fi hfi
            exact ⟨fi, hfi, fun e => by rw [e] at this; simp at this⟩
          · cases this
        · have := List.all_eq_true.1 h7 f hf
          rw [e] at this; simp at this
      · cases h2
    · cases h
theorem ttB_ok : ∀ {tt : TT}, ttB P E tt = true → TTOk P E tt
  | [], _, t, ty, h => by simp [ttGet] at h
  | (k, v) :: tt, hb, t, ty, h => by
    simp only [ttB, List.all_cons, Bool.and_eq_true] at hb
    simp only [ttGet] at h
    cases hk : Nat.beq k t with
    | true => rw [hk] at h; injection h with h; subst h; obtain rfl := nbeq hk; exact tyB_ok hb.1
    | false => rw [hk] at h; exact ttB_ok (tt := tt) hb.2 t ty h
end Go.Rf
end
section
set_option linter.unusedSimpArgs false
set_option linter.unusedVariables false
/-! What can be read as data, as the machine's leaves. -/
namespace Go.Rf
open Go.RowKit Go.ChangeShapes
section
variable (E : Env)
/-- Within what may come in. -/
inductive LWf : Leaf E.A → Prop
  | int (k : IntKind) (x : Int) (h : (Lit.int k x).wf = true) : LWf ⟨.int k, x⟩
  | bool (x : Bool) : LWf ⟨.bool, x⟩
  | str (x : List UInt8) (h : x.length ≤ reachBytes) : LWf ⟨.str, x⟩
  | sl (i : Nat) (xs : List (E.A i)) (h : xs.length * E.bytes i ≤ reachBytes) (hs : ∀ l ∈ flat E i xs, LWf l) : LWf ⟨.sl i, xs⟩
def readB (rt : TT) : Bool := rt.all fun p => match p.2 with
  | .leaf (.int _) => true
  | .leaf .bool => true
  | .leaf .str => true
  | .leaf (.sl i) => match ttGet rt (E.elem i) with | some ty => ty.shape == E.shape i | none => false
  | .agg ls fs => tiles rt 0 fs ls
  | _ => false
end
variable {E : Env} {P : Program} {H : Type} {enc : TypeId × Value → H} {w : World} {spare : Nat → Bool} {held : Bool}
def noF : Nat → Nat → Prop := fun _ _ => False
theorem ttGet_mem : ∀ {tt : TT} {t : TypeId} {ty : Ty}, ttGet tt t = some ty → (t, ty) ∈ tt
  | [], _, _, h => by simp [ttGet] at h
  | (k, v) :: tt, t, ty, h => by
    simp only [ttGet] at h
    cases hk : Nat.beq k t with
    | true => rw [hk] at h; injection h with h; subst h; obtain rfl := nbeq hk; exact List.mem_cons_self
    | false => rw [hk] at h; exact List.mem_cons_of_mem _ (ttGet_mem (tt := tt) h)
theorem cellsOf_ty {t : TypeId} {ty : Ty} (h : TyOk P E t ty) : P.cellsOf t = ty.size := by
  cases ty with
  | leaf l => obtain ⟨d, info, z, _, _, hi, hs, _⟩ := h; simp [Program.cellsOf, hi, hs, Ty.size]
  | agg ls fs => obtain ⟨flds, info, zs, _, hi, hs, _⟩ := h; simp [Program.cellsOf, hi, hs, Ty.size]
theorem shape_len (ty : Ty) : ty.shape.length = ty.size := by cases ty <;> rfl
theorem add_cell {a : Addr} {k : Nat} {u : Value} (h : w.cell? (a.add k) = some u) : w.cell? ⟨a.block, a.off + k, none⟩ = some u := by
  unfold Addr.add at h
  by_cases hk : k = 0
  · subst hk
    rw [if_pos rfl] at h
    have : a.spot = none := by
      cases hs : a.spot with
      | none => rfl
      | some s =>
        exfalso
        unfold World.cell? at h
        rw [hs] at h
        split at h
        · simp at h
        · cases h
    obtain ⟨b, o, s⟩ := a
    simp only at this; subst this
    exact h
  · rw [if_neg hk] at h; exact h
theorem cells_at : ∀ {n : Nat} {f : Nat → Option Value} {cs : List Value}, (List.range n).mapM f = some cs → cs.length = n ∧ ∀ (k : Nat) (u : Value), cs[k]? = some u → f k = some u := by
  intro n f cs h
  have key : ∀ (l : List Nat) (cs : List Value), l.mapM f = some cs → cs.length = l.length ∧ ∀ (k : Nat) (u : Value), cs[k]? = some u → ∃ j : Nat, l[k]? = some j ∧ f j = some u := by
    intro l
    induction l with
    | nil => intro cs h; simp at h; subst h; simp
    | cons x l ih =>
      intro cs h
      rw [List.mapM_cons] at h
      cases hx : f x with
      | none => simp [hx] at h
      | some y =>
        cases hl : l.mapM f with
        | none => simp [hx, hl] at h
        | some ys =>
          simp [hx, hl] at h
          subst h
          obtain ⟨e1, e2⟩ := ih ys hl
          refine ⟨by simp [e1], fun k u hk => ?_⟩
          cases k with
          | zero => simp at hk; subst hk; exact ⟨x, rfl, hx⟩
          | succ k => simpa using e2 k u (by simpa using hk)
  obtain ⟨h1, h2⟩ := key _ _ h
  refine ⟨by simpa using h1, fun k u hk => ?_⟩
  obtain ⟨j, hj, hf⟩ := h2 k u hk
  have : j = k := by
    have := List.getElem?_eq_some_iff.1 hj
    obtain ⟨_, e⟩ := this
    simpa using e.symm
  subst this; exact hf
theorem tile_read {rt : TT} {n : Nat} : ∀ (fs : List (Nat × TypeId)) (off : Nat) (ls : List LT) (cs : List Value), tiles rt off fs ls = true → cs.length = off + ls.length →
    (∀ f ∈ fs, ∀ ty, ttGet rt f.2 = some ty → ∃ lv : List (Leaf E.A), lv.map (·.t) = ty.shape ∧ All2 (VR E noF w n) lv ((cs.drop f.1).take ty.size) ∧ ∀ l ∈ lv, LWf E l) →
    ∃ lv : List (Leaf E.A), lv.map (·.t) = ls ∧ All2 (VR E noF w n) lv (cs.drop off) ∧ ∀ l ∈ lv, LWf E l
  | [], off, ls, cs, ht, hl, _ => by
    simp only [tiles, List.isEmpty_iff] at ht
    subst ht
    refine ⟨[], rfl, ?_, by simp⟩
    rw [List.drop_eq_nil_of_le (by simp at hl; omega)]; trivial
  | (o, ft) :: rest, off, ls, cs, ht, hl, hf => by
    simp only [tiles] at ht
    split at ht
    · rename_i ty hty
      simp only [Bool.and_eq_true, beq_iff_eq] at ht
      obtain ⟨⟨h1, h2⟩, h3⟩ := ht
      obtain rfl := nbeq h1
      have hlen : ty.size ≤ ls.length := by
        have := congrArg List.length h2
        rw [shape_len, List.length_take] at this
        omega
      obtain ⟨lv1, a1, a2, a3⟩ := hf (o, ft) List.mem_cons_self ty hty
      obtain ⟨lv2, b1, b2, b3⟩ := tile_read rest (o + ty.size) (ls.drop ty.size) cs h3 (by rw [List.length_drop]; omega) (fun f hfm => hf f (List.mem_cons_of_mem _ hfm))
      refine ⟨lv1 ++ lv2, ?_, ?_, fun l hl => ?_⟩
      · rw [List.map_append, a1, b1, ← h2, List.take_append_drop]
      · have : cs.drop o = (cs.drop o).take ty.size ++ cs.drop (o + ty.size) := by rw [← List.drop_drop, List.take_append_drop]
        rw [this]
        exact a2.app b2
      · rcases List.mem_append.1 hl with h | h
        · exact a3 l h
        · exact b3 l h
    · cases ht
theorem weightsAll_mem {e : TypeId} : ∀ {ds : List (DataW H)} {d : DataW H}, d ∈ ds → ∀ n ∈ d.weights P e, n ∈ DataW.weightsAll P e ds
  | x :: ds, d, hd, n, hn => by
    simp only [DataW.weightsAll, List.mem_append]
    rcases List.mem_cons.1 hd with rfl | hd
    · exact .inl hn
    · exact .inr (weightsAll_mem hd n hn)
theorem read_ok {rt : TT} (htt : TTOk P E rt) (hrb : readB E rt = true) (hmk : ∀ i (ls : List (Leaf E.A)), ls.map (·.t) = E.shape i → (∀ l ∈ ls, LWf E l) → ∃ x, E.leaves i x = ls) :
    ∀ (fuel : Nat) (t : TypeId) (ty : Ty) (cs : List Value) (d : DataW H) (ps : List MemPlace), ttGet rt t = some ty → DataW.trod enc P w 0 spare held fuel t cs = some (d, ps) → (∀ n ∈ d.weights P t, n ≤ reachBytes) →
      ∃ ls : List (Leaf E.A), ls.map (·.t) = ty.shape ∧ All2 (VR E noF w fuel) ls cs ∧ ∀ l ∈ ls, LWf E l
  | 0, t, ty, cs, d, ps, _, h, _ => by simp [DataW.trod] at h
  | n + 1, t, ty, cs, d, ps, hty, h, hw => by
    have hT := htt _ _ hty
    have hB := List.all_eq_true.1 hrb _ (ttGet_mem hty)
    cases ty with
    | leaf l =>
      obtain ⟨td, info, z, hu, hd, hi, hs, hz, hz2⟩ := hT
      cases l with
      | int k =>
        obtain rfl : td = .int k := hd
        obtain ⟨m, rfl, _, hwf⟩ := DataW.trod_int hu h
        exact ⟨[⟨.int k, m⟩], rfl, ⟨rfl, trivial⟩, by intro l hl; simp at hl; subst hl; exact .int k m hwf⟩
      | bool =>
        obtain rfl : td = .bool := hd
        obtain ⟨b, rfl, _⟩ := DataW.trod_bool hu h
        exact ⟨[⟨.bool, b⟩], rfl, ⟨rfl, trivial⟩, by intro l hl; simp at hl; subst hl; exact .bool b⟩
      | str =>
        obtain rfl : td = .string := hd
        obtain ⟨s, rfl, hx, hm⟩ := DataW.trod_string hu h
        refine ⟨[⟨.str, s.data.toList⟩], rfl, ⟨rfl, trivial⟩, ?_⟩
        intro l hl; simp at hl; subst hl
        refine .str _ ?_
        have hd : d = .lit (.string s.data.toList) := congrArg Prod.fst hx
        exact hw _ (by rw [hd]; simp [DataW.weights])
      | sl i =>
        obtain ⟨rfl, ⟨ei, ez, he1, he2, he3, he4, he5, he6⟩, _⟩ := hd
        dsimp only at hB
        cases het : ttGet rt (E.elem i) with
        | none => rw [het] at hB; cases hB
        | some ety =>
          rw [het] at hB
          have hsh : ety.shape = E.shape i := by simpa using hB
          have hcells : P.cellsOf (E.elem i) = sz E i := by simp [Program.cellsOf, he1, he2]
          rcases DataW.trod_slice hu h with ⟨rfl, hx⟩ | ⟨a, len, cap, elems, rest, m, hm, rfl, hx, hb, hlc, hcm, hel, hat, _, _⟩
          · refine ⟨[⟨.sl i, []⟩], rfl, ⟨⟨none, 0, [], rfl, Nat.le_refl _, trivial, by simp⟩, trivial⟩, ?_⟩
            intro l hl; simp at hl; subst hl
            exact .sl i [] (by simp) (by simp [flat])
          · obtain rfl : n = m := by omega
            have hd : d = .slice (elems.map (·.1)) (rest.map (·.1)) := congrArg Prod.fst hx
            subst hd
            simp only [DataW.weights, hu] at hw
            have build : ∀ m, m ≤ len → ∃ (xs : List (E.A i)) (us : List Value), xs.length = m ∧ us.length = m * sz E i ∧ All2 (VR E noF w n) (flat E i xs) us ∧ (∀ (k : Nat) (u : Value), us[k]? = some u → w.cell? ⟨a.block, a.off + k, none⟩ = some u) ∧ ∀ l ∈ flat E i xs, LWf E l := by
              intro m
              induction m with
              | zero => intro _; exact ⟨[], [], rfl, by simp, trivial, by simp, by simp [flat]⟩
              | succ m ih =>
                intro hlt
                obtain ⟨xs, us, g1, g2, g3, g4, g5⟩ := ih (by omega)
                have hm' := hat m (by omega)
                have hml : m < elems.length := by omega
                rw [List.getElem?_eq_getElem hml, Option.bind_eq_some_iff] at hm'
                obtain ⟨cs, hcs, htr⟩ := hm'
                unfold World.cells? at hcs
                rw [if_pos (Nat.zero_le _)] at hcs
                obtain ⟨c1, c2⟩ := cells_at hcs
                obtain ⟨ls, k1, k2, k3⟩ := read_ok htt hrb hmk n (E.elem i) ety cs elems[m].1 elems[m].2 het htr (fun x hx => hw x (List.mem_cons_of_mem _ (List.mem_append.2 (.inl (weightsAll_mem (List.mem_map.2 ⟨elems[m], List.getElem_mem hml, rfl⟩) x hx)))))
                obtain ⟨x, hx⟩ := hmk i ls (k1.trans hsh) k3
                have hf : flat E i (xs ++ [x]) = flat E i xs ++ ls := by rw [flat_app]; congr 1; simp [flat, hx]
                refine ⟨xs ++ [x], us ++ cs, by simp [g1], by rw [List.length_append, g2, c1, hcells, Nat.add_mul, Nat.one_mul], by rw [hf]; exact g3.app k2, fun k u hk => ?_, fun l hl => ?_⟩
                · by_cases hk1 : k < us.length
                  · rw [List.getElem?_append_left hk1] at hk; exact g4 k u hk
                  · rw [List.getElem?_append_right (by omega)] at hk
                    have := add_cell (c2 _ u hk)
                    have e : (a.add (m * P.cellsOf (E.elem i))).block = a.block ∧ (a.add (m * P.cellsOf (E.elem i))).off = a.off + m * sz E i := by
                      rw [hcells]
                      unfold Addr.add
                      by_cases h0 : m * sz E i = 0
                      · rw [if_pos h0, h0]; exact ⟨rfl, rfl⟩
                      · rw [if_neg h0]; exact ⟨rfl, rfl⟩
                    rw [e.1, e.2] at this
                    have e2 : a.off + m * sz E i + (k - us.length) = a.off + k := by rw [g2] at hk1 ⊢; omega
                    rw [e2] at this; exact this
                · rw [hf] at hl
                  rcases List.mem_append.1 hl with h | h
                  · exact g5 l h
                  · exact k3 l h
            obtain ⟨xs, us, g1, g2, g3, g4, g5⟩ := build len (Nat.le_refl _)
            refine ⟨[⟨.sl i, xs⟩], rfl, ⟨⟨some a, cap, us, by rw [g1], by rw [g1]; exact hlc, g3, fun k u hk => ?_⟩, trivial⟩, ?_⟩
            · have hlen0 : 0 < us.length := by have := (List.getElem?_eq_some_iff.1 hk).1; omega
              refine ⟨a, rfl, ?_, g4 k u hk, fun f => f⟩
              have hl0 : 0 < len := by
                rcases Nat.eq_zero_or_pos len with h | h
                · rw [h, Nat.zero_mul] at g2; omega
                · exact h
              have hm' := hat 0 hl0
              have hml : 0 < elems.length := by omega
              rw [List.getElem?_eq_getElem hml, Option.bind_eq_some_iff] at hm'
              obtain ⟨cs, hcs, _⟩ := hm'
              unfold World.cells? at hcs
              rw [if_pos (Nat.zero_le _)] at hcs
              obtain ⟨c1, c2⟩ := cells_at hcs
              have hpos : 0 < sz E i := by
                have := E.some0 i
                unfold sz
                exact List.length_pos_iff.2 this
              have hc0 : 0 < cs.length := by rw [c1, hcells]; exact hpos
              have := c2 0 cs[0] (List.getElem?_eq_getElem hc0)
              simp only [Nat.zero_mul, Addr.add, if_true] at this
              cases hs : a.spot with
              | none => rfl
              | some s =>
                exfalso
                unfold World.cell? at this
                rw [hs] at this
                split at this
                · simp at this
                · cases this
            · intro l hl; simp at hl; subst hl
              refine .sl i xs ?_ g5
              have := hw _ List.mem_cons_self
              simp only [List.length_map] at this
              have hbo : P.bytesOf (E.elem i) = E.bytes i := by simp [Program.bytesOf, he1, he3]
              rw [hbo, hel, Nat.add_mul] at this
              rw [g1]
              exact Nat.le_trans (Nat.le_add_right _ _) this
      | nil => simp at hB
      | err => simp at hB
      | fn => simp at hB
      | ptr => simp at hB
      | self => simp at hB
    | agg ls fs =>
      obtain ⟨flds, info, zs, hu, hi, hs, hz, hzo, hfs, hnz, _⟩ := hT
      obtain ⟨xs, m, hm, hx, hcl, hxl, hfl⟩ := DataW.trod_struct hu h
      obtain rfl : n = m := by omega
      have hd : d = .agg (xs.map (·.1)) := congrArg Prod.fst hx
      subst hd
      simp only [DataW.weights, hu] at hw
      have hsz : P.cellsOf t = ls.length := by simp [Program.cellsOf, hi, hs]
      have := tile_read (E := E) (w := w) (n := n) fs 0 ls cs hB (by rw [hcl, hsz]; simp) (fun f hf fty hfty => by
        rw [← hfs] at hf
        obtain ⟨fld, hfm, rfl⟩ := List.mem_map.1 hf
        obtain ⟨j, hj⟩ := List.getElem?_of_mem hfm
        have hj' : flds[j]? = some fld := by simpa using hj
        have htr := hfl j fld hj'
        have hjl : j < xs.length := by rw [hxl]; exact (Array.getElem?_eq_some_iff.1 hj').1
        rw [List.getElem?_eq_getElem hjl, cellsOf_ty (htt _ _ hfty)] at htr
        exact read_ok htt hrb hmk n fld.type fty _ xs[j].1 xs[j].2 hfty htr (fun x hx => hw x (DataW.weights_mem_each (j := j) (t := fld.type) (d := xs[j].1) (by simp [hj']) (by simp [hjl]) x hx)))
      obtain ⟨lv, g1, g2, g3⟩ := this
      rw [List.drop_zero] at g2
      exact ⟨lv, g1, g2.mono (fun _ _ hv => VR_fuel (by omega) hv), g3⟩
end Go.Rf
end
section
namespace Go.Rf
abbrev TV' := TV kindA
abbrev RV' := RV kindA
abbrev tS (s : List UInt8) : TV' := .leaf ⟨.str, s⟩ false
abbrev tI (x : Int) : TV' := .leaf ⟨.int .i64, x⟩ false
abbrev tU (x : Int) : TV' := .leaf ⟨.int .u8, x⟩ false
abbrev tB (b : Bool) : TV' := .leaf ⟨.bool, b⟩ false
abbrev tF (f : Option Nat) : TV' := .leaf ⟨.fn, f⟩ false
abbrev tL (i : Nat) (xs : List (kindA i)) (own : Bool) : TV' := .leaf ⟨.sl i, xs⟩ own
abbrev tP (b o : Nat) : TV' := .leaf ⟨.ptr, some (b, o)⟩ false
abbrev vS (s : List UInt8) : RV' := .v (tS s)
abbrev vI (x : Int) : RV' := .v (tI x)
abbrev vU (x : Int) : RV' := .v (tU x)
abbrev vB (b : Bool) : RV' := .v (tB b)
abbrev vF (f : Option Nat) : RV' := .v (tF f)
abbrev vL (i : Nat) (xs : List (kindA i)) (own : Bool) : RV' := .v (tL i xs own)
/-! Letters. -/
def dg (c : Int) : Bool := decide (48 ≤ c) && decide (c ≤ 57)
def gr (c : Int) : Bool := decide (65 ≤ c) && decide (c ≤ 90)
def sm (c : Int) : Bool := decide (97 ≤ c) && decide (c ≤ 122)
/-- Short enough to be counted. -/
def few (n : Nat) : Prop := n ≤ 140737488351232
/-- The byte at a place. -/
abbrev byt (s : List UInt8) (i : Int) : Int := ((s.getD i.toNat 0).toNat : Int)
theorem wrap_i64 {x : Int} (h1 : -9223372036854775808 ≤ x) (h2 : x ≤ 9223372036854775807) : IntKind.i64.wrap x = x := by
  unfold IntKind.wrap; simp [IntKind.signed, IntKind.bits]; omega
abbrev lenB (l : List UInt8) : Nat := l.length
abbrev snocB (l : List UInt8) (x : UInt8) : List UInt8 := l ++ [x]
abbrev catB (l m : List UInt8) : List UInt8 := l ++ m
/-- The byte of a number. -/
abbrev u8 (c : Int) : UInt8 := UInt8.ofNat c.toNat
theorem u8_byte (b : UInt8) : u8 (b.toNat : Int) = b := by simp [u8]
theorem byte_lt (b : UInt8) : (b.toNat : Int) < 256 := by have := b.toNat_lt; omega
/-- Are two lists one? -/
def lEq {α : Type} [DecidableEq α] (a b : List α) : Bool := decide (a = b)
theorem lEq_cons {α : Type} [DecidableEq α] {x y : α} {a b : List α} : lEq (x :: a) (y :: b) = (decide (x = y) && lEq a b) := by
  unfold lEq; rw [Bool.eq_iff_iff]; simp
theorem lEq_nil {α : Type} [DecidableEq α] : lEq ([] : List α) [] = true := by simp [lEq]
theorem lEq_refl {α : Type} [DecidableEq α] (a : List α) : lEq a a = true := by simp [lEq]
theorem lEq_len {α : Type} [DecidableEq α] {a b : List α} (h : a.length ≠ b.length) : lEq a b = false := by unfold lEq; exact decide_eq_false fun e => h (by rw [e])
end Go.Rf
end
