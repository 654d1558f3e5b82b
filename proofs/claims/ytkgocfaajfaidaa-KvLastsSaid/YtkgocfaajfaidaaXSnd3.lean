/- Soundness of the quiet operations: elements, slices, conversions, literals, and all of them at once ('qx_sound'). -/
import Derived.Test.YtkgocfaajfaidaaXSnd2
namespace Go.Proofs.Ytkgocfaajfaidaa.D
open Go
set_option linter.unusedVariables false
set_option linter.unusedSimpArgs false

section
variable {P : Program} {w : World}

theorem fieldV_run {s : TypeId} {x : Value} {f : Nat} {K : Value → Prop}
    (h : fieldV P s x f K) : ∃ u, (Instr.field s x f).run P w = .ok u w ∧ K u := by
  unfold fieldV at h
  split at h
  · rename_i fs hfs
    split at h
    · rename_i fd hfd
      split at h
      · rename_i d cs hdd
        obtain ⟨u, h1, h2⟩ := partD_run (w := w) h hdd
        exact ⟨u, by simpa [Instr.field, run_underlying_some hfs, hfd, asAgg] using h1, h2⟩
      · exact h.elim
    · exact h.elim
  · exact h.elim

theorem beq_zero_info {e : TypeId} (h : Nat.beq (P.cellsOf e) 0 = false) : ∃ j, P.info? e = some j :=
  cells_pos_info (fun e => by rw [e] at h; simp at h)

theorem indexAD_run {t : TypeId} {x i : Value} {K : Value → Prop}
    (h : indexAD P t x i K) : ∃ u, (Instr.indexAt t x i).run P w = .ok u w ∧ K u := by
  unfold indexAD at h
  split at h
  · rename_i k n
    split at h
    · rename_i e o len _ hu
      cases hz : Nat.beq (P.cellsOf e) 0 with
      | true => simp [hz] at h
      | false =>
      simp only [hz] at h
      obtain ⟨j, hj⟩ := beq_zero_info hz
      obtain ⟨a, rfl, h0, h1, h2⟩ := h
      refine ⟨_, ?_, h2⟩
      simp [Instr.indexAt, asIntOf, run_underlying_some hu, run_sizeOf hj, h0, h1]
    · rename_i m e o hu
      cases hz : Nat.beq (P.cellsOf e) 0 with
      | true => simp [hz] at h
      | false =>
      simp only [hz] at h
      obtain ⟨j, hj⟩ := beq_zero_info hz
      cases o with
      | none => exact h.elim
      | some a =>
        obtain ⟨h0, h1, h2⟩ := h
        refine ⟨_, ?_, h2⟩
        simp [Instr.indexAt, asIntOf, run_underlying_some hu, run_sizeOf hj, h0, h1, Instr.sureAddr]
    · exact h.elim
  · exact h.elim

theorem aidxSc_inv {s : Sc} {cs : List Value} {i : Int} {K : Value → Prop} (h : aidxSc s cs i K) : aidx cs i K := by
  cases s with
  | int k => obtain ⟨n, h0, h1, h2⟩ := h; exact ⟨_, h0, h1, h2⟩
  | _ => exact h

theorem indexVD_run {t : TypeId} {x i : Value} {K : Value → Prop}
    (h : indexVD P t x i K) : ∃ u, (Instr.index t x i).run P w = .ok u w ∧ K u := by
  unfold indexVD at h
  split at h
  · rename_i k n
    split at h
    · rename_i s hu
      obtain ⟨b, h0, h1, h2⟩ := h
      refine ⟨_, ?_, h2⟩
      have hb : s[n.toNat]? = some b := by
        have : n.toNat < s.data.toList.length := (List.getElem?_eq_some_iff.1 h1).1
        have h3 : n.toNat < s.size := by simpa using this
        rw [getElem?_pos s n.toNat h3]
        have := (List.getElem?_eq_some_iff.1 h1).2
        rw [← this]; rfl
      simp [Instr.index, asIntOf, run_underlying_some hu, h0, hb]
    · rename_i m e cs hu
      split at h
      · rename_i d hb hz hd
        obtain ⟨j, hj⟩ := info_of_underlying hd
        obtain ⟨h0, h1, h⟩ := h
        obtain ⟨v, _, h3, h4⟩ := aidxSc_inv h
        refine ⟨v, ?_, h4⟩
        have hz' : P.cellsOf e = 1 := Nat.eq_of_beq_eq_true hz
        have h3' : cs[n.toNat]? = some v := by simpa using h3
        simp [Instr.index, asIntOf, run_underlying_some hu, h0, h1, run_sizeOf hj, hz', part, isAggT_run hb hd, h3']
      · exact h.elim
    · exact h.elim
  · exact h.elim

theorem bnd_run {n : Nat} {env : Env} {a : Act} (ha : Agrees n env a) {x : Option Operand} {dflt : Int} {K : Int → Prop} (h : bnd env x dflt K) :
    (x = none ∧ K dflt) ∨ ∃ y k m, x = some y ∧ a.eval y = .int k m ∧ K m := by
  unfold bnd at h
  cases x with
  | none => exact .inl ⟨rfl, h⟩
  | some y =>
    have h1 := ev1_eval ha h
    split at h1
    · rename_i k m hv; exact .inr ⟨y, k, m, rfl, hv, h1⟩
    · exact h1.elim

theorem run_sliceBound {k : IntKind} {m : Int} {y : Nat} {c : BoundsCode} (h0 : 0 ≤ m) (h1 : m ≤ y) : (Instr.sliceBound (.int k m) y c).run P w = .ok m.toNat w := by
  simp [Instr.sliceBound, asIntOf, h0, h1]

theorem run_sliceBounds {ρ : Operand → Value} {isSlice : Bool} {len cap : Nat} {lo hi mx : Option Operand} {l h m : Int}
    (hmx : (mx = none ∧ m = cap) ∨ ∃ y k, mx = some y ∧ ρ y = .int k m) (hhi : (hi = none ∧ h = len) ∨ ∃ y k, hi = some y ∧ ρ y = .int k h)
    (hlo : (lo = none ∧ l = 0) ∨ ∃ y k, lo = some y ∧ ρ y = .int k l) (hnn : mx ≠ none → hi ≠ none)
    (h0 : 0 ≤ l) (h1 : l ≤ h) (h2 : h ≤ m) (h3 : m ≤ cap) :
    (Instr.sliceBounds isSlice len cap (lo.map ρ) (hi.map ρ) (mx.map ρ)).run P w = .ok (l.toNat, h.toNat, m.toNat) w := by
  rcases hmx with ⟨rfl, rfl⟩ | ⟨y1, k1, rfl, e1⟩
  · rcases hhi with ⟨rfl, rfl⟩ | ⟨y2, k2, rfl, e2⟩
    · rcases hlo with ⟨rfl, rfl⟩ | ⟨y3, k3, rfl, e3⟩
      · simp [Instr.sliceBounds]
      · simp [Instr.sliceBounds, e3, run_sliceBound h0 h1]
    · have h2' : h ≤ (cap : Int) := h2
      rcases hlo with ⟨rfl, rfl⟩ | ⟨y3, k3, rfl, e3⟩
      · simp [Instr.sliceBounds, e2, run_sliceBound (k := k2) (m := h) (show 0 ≤ h by omega) h2']
      · simp [Instr.sliceBounds, e2, e3, run_sliceBound (k := k2) (m := h) (show 0 ≤ h by omega) h2', run_sliceBound (k := k3) (m := l) (y := h.toNat) h0 (by omega)]
  · rcases hhi with ⟨rfl, rfl⟩ | ⟨y2, k2, rfl, e2⟩
    · exact absurd rfl (hnn (by simp))
    · rcases hlo with ⟨rfl, rfl⟩ | ⟨y3, k3, rfl, e3⟩
      · simp [Instr.sliceBounds, e1, e2, run_sliceBound (k := k1) (m := m) (show 0 ≤ m by omega) h3, run_sliceBound (k := k2) (m := h) (y := m.toNat) (show 0 ≤ h by omega) (by omega)]
      · simp [Instr.sliceBounds, e1, e2, e3, run_sliceBound (k := k1) (m := m) (show 0 ≤ m by omega) h3, run_sliceBound (k := k2) (m := h) (y := m.toNat) (show 0 ≤ h by omega) (by omega),
          run_sliceBound (k := k3) (m := l) (y := h.toNat) h0 (by omega)]

theorem sl3_nn {hi mx : Option Operand} (h : sl3 hi mx = true) : mx ≠ none → hi ≠ none := by
  intro h1 h2
  subst h2
  cases mx with
  | none => exact h1 rfl
  | some y => simp [sl3] at h

theorem sliceD_run {n : Nat} {env : Env} {a : Act} (ha : Agrees n env a) {t : TypeId} {x : Value} {lo hi mx : Option Operand} {K : Value → Prop}
    (h : sliceD P env t x lo hi mx K) : ∃ u, (Instr.sliceAt t x (lo.map a.eval) (hi.map a.eval) (mx.map a.eval)).run P w = .ok u w ∧ K u := by
  unfold sliceD at h
  split at h
  · rename_i s hu
    split at h
    · have h1 := bnd_run ha h
      obtain ⟨l, hl, h1⟩ : ∃ l : Int, ((lo = none ∧ l = 0) ∨ ∃ y k, lo = some y ∧ a.eval y = .int k l) ∧ bnd env hi s.size fun h => ssl s l h fun r => K (.string r) := by
        rcases h1 with ⟨e, h1⟩ | ⟨y, k, m, e, e1, h1⟩
        · exact ⟨0, .inl ⟨e, rfl⟩, h1⟩
        · exact ⟨m, .inr ⟨y, k, e, e1⟩, h1⟩
      have h2 := bnd_run ha h1
      obtain ⟨hh, hhh, h2⟩ : ∃ g : Int, ((hi = none ∧ g = s.size) ∨ ∃ y k, hi = some y ∧ a.eval y = .int k g) ∧ ssl s l g fun r => K (.string r) := by
        rcases h2 with ⟨e, h1⟩ | ⟨y, k, m, e, e1, h1⟩
        · exact ⟨_, .inl ⟨e, rfl⟩, h1⟩
        · exact ⟨m, .inr ⟨y, k, e, e1⟩, h1⟩
      obtain ⟨g0, g1, g2, g3⟩ := h2
      refine ⟨_, ?_, g3⟩
      have hb := run_sliceBounds (P := P) (w := w) (ρ := a.eval) (isSlice := false) (len := s.size) (cap := s.size) (lo := lo) (hi := hi) (mx := none) (m := s.size) (.inl ⟨rfl, rfl⟩) hhh hl (by simp) g0 g1 g2 (by omega)
      simp only [Option.map_none] at hb
      simp [Instr.sliceAt, Instr.slice, run_underlying_some hu, hb]
    · exact h.elim
  · rename_i e o len cap hu
    split at h
    rotate_left
    · exact h.elim
    rename_i hz h3
    obtain ⟨j, hj⟩ := beq_zero_info hz
    have hnn := sl3_nn h3
    obtain ⟨l, hl, h1⟩ : ∃ l : Int, ((lo = none ∧ l = 0) ∨ ∃ y k, lo = some y ∧ a.eval y = .int k l) ∧ bnd env hi len fun h => bnd env mx cap fun m => lsl (P.cellsOf e) o cap l h m fun o' n' c' => K (.slice o' n' c') := by
      rcases bnd_run ha h with ⟨e, h1⟩ | ⟨y, k, m, e, e1, h1⟩
      · exact ⟨0, .inl ⟨e, rfl⟩, h1⟩
      · exact ⟨m, .inr ⟨y, k, e, e1⟩, h1⟩
    obtain ⟨hh, hhh, h2⟩ : ∃ g : Int, ((hi = none ∧ g = len) ∨ ∃ y k, hi = some y ∧ a.eval y = .int k g) ∧ bnd env mx cap fun m => lsl (P.cellsOf e) o cap l g m fun o' n' c' => K (.slice o' n' c') := by
      rcases bnd_run ha h1 with ⟨e, h1⟩ | ⟨y, k, m, e, e1, h1⟩
      · exact ⟨_, .inl ⟨e, rfl⟩, h1⟩
      · exact ⟨m, .inr ⟨y, k, e, e1⟩, h1⟩
    obtain ⟨mm, hmm, h3⟩ : ∃ g : Int, ((mx = none ∧ g = cap) ∨ ∃ y k, mx = some y ∧ a.eval y = .int k g) ∧ lsl (P.cellsOf e) o cap l hh g fun o' n' c' => K (.slice o' n' c') := by
      rcases bnd_run ha h2 with ⟨e, h1⟩ | ⟨y, k, m, e, e1, h1⟩
      · exact ⟨_, .inl ⟨e, rfl⟩, h1⟩
      · exact ⟨m, .inr ⟨y, k, e, e1⟩, h1⟩
    obtain ⟨g0, g1, g2, g3, g4⟩ := h3
    refine ⟨_, ?_, g4⟩
    have hb := run_sliceBounds (P := P) (w := w) (ρ := a.eval) (isSlice := true) (len := len) (cap := cap) hmm hhh hl hnn g0 g1 g2 g3
    simp only [Instr.sliceAt, Instr.slice, Sem.run_bind, run_underlying_some hu, Result.andThen_ok, hb, run_sizeOf hj, Sem.run_pure]
    have e1 : (mm.toNat = l.toNat) ↔ (mm = l) := by omega
    have e2 : (hh - l).toNat = hh.toNat - l.toNat := by omega
    have e3 : (mm - l).toNat = mm.toNat - l.toNat := by omega
    simp only [e1, e2, e3]
  · rename_i m e o hu
    split at h
    rotate_left
    · exact h.elim
    rename_i hz h3
    obtain ⟨j, hj⟩ := beq_zero_info hz
    have hnn := sl3_nn h3
    cases o with
    | none => exact h.elim
    | some ad =>
      unfold nn at h
      simp only at h
      obtain ⟨l, hl, h1⟩ : ∃ l : Int, ((lo = none ∧ l = 0) ∨ ∃ y k, lo = some y ∧ a.eval y = .int k l) ∧ bnd env hi m fun h => bnd env mx m fun m' => lsl (P.cellsOf e) (some ad) m l h m' fun o' n' c' => K (.slice o' n' c') := by
        rcases bnd_run ha h with ⟨e, h1⟩ | ⟨y, k, m, e, e1, h1⟩
        · exact ⟨0, .inl ⟨e, rfl⟩, h1⟩
        · exact ⟨m, .inr ⟨y, k, e, e1⟩, h1⟩
      obtain ⟨hh, hhh, h2⟩ : ∃ g : Int, ((hi = none ∧ g = m) ∨ ∃ y k, hi = some y ∧ a.eval y = .int k g) ∧ bnd env mx m fun m' => lsl (P.cellsOf e) (some ad) m l g m' fun o' n' c' => K (.slice o' n' c') := by
        rcases bnd_run ha h1 with ⟨e, h1⟩ | ⟨y, k, m, e, e1, h1⟩
        · exact ⟨_, .inl ⟨e, rfl⟩, h1⟩
        · exact ⟨m, .inr ⟨y, k, e, e1⟩, h1⟩
      obtain ⟨mm, hmm, h3⟩ : ∃ g : Int, ((mx = none ∧ g = m) ∨ ∃ y k, mx = some y ∧ a.eval y = .int k g) ∧ lsl (P.cellsOf e) (some ad) m l hh g fun o' n' c' => K (.slice o' n' c') := by
        rcases bnd_run ha h2 with ⟨e, h1⟩ | ⟨y, k, m, e, e1, h1⟩
        · exact ⟨_, .inl ⟨e, rfl⟩, h1⟩
        · exact ⟨m, .inr ⟨y, k, e, e1⟩, h1⟩
      obtain ⟨g0, g1, g2, g3, g4⟩ := h3
      refine ⟨_, ?_, g4⟩
      have hb := run_sliceBounds (P := P) (w := w) (ρ := a.eval) (isSlice := false) (len := m) (cap := m) hmm hhh hl hnn g0 g1 g2 g3
      simp only [Instr.sliceAt, Sem.run_bind, run_underlying_some hu, Result.andThen_ok, Instr.sureAddr, hb, run_sizeOf hj, Sem.run_pure]
      have e1 : (mm.toNat = l.toNat) ↔ (mm = l) := by omega
      have e2 : (hh - l).toNat = hh.toNat - l.toNat := by omega
      have e3 : (mm - l).toNat = mm.toNat - l.toNat := by omega
      simp only [e1, e2, e3, Option.map_some]
      by_cases hc : mm = l <;> simp [hc]
  · exact h.elim

theorem run_b2s_loop : ∀ (bs : List UInt8) (acc : ByteArray),
    (forIn (bs.map fun v => Value.int .u8 (v.toNat : Int)) acc fun c s => (match c with
      | .int .u8 n => pure (ForInStep.yield (s.push (UInt8.ofNat n.toNat)))
      | _ => stuck "bytesToString: byte expected" : Sem (ForInStep ByteArray))).run P w = .ok ⟨(acc.data.toList ++ bs).toArray⟩ w
  | [], acc => by simp
  | b :: r, acc => by
    simp only [List.map_cons, List.forIn_cons, Sem.run_bind, Sem.run_pure, Result.andThen_ok]
    have e : UInt8.ofNat ((b.toNat : Int)).toNat = b := by simp
    rw [e, run_b2s_loop r]
    simp [ByteArray.push]

theorem convD_run {src dst : TypeId} {x : Value} {K : Value → Prop} (h : convD P src dst x w.heap K) : ∃ u, (convert src dst x).run P w = .ok u w ∧ K u := by
  unfold convD at h
  split at h
  · rename_i d k k' n hs hd
    exact ⟨_, by cases d <;> simp [convert, run_underlying_some hs, run_underlying_some hd, Conv.intToInt], h⟩
  · rename_i d s hs hd
    exact ⟨_, by cases d <;> simp [convert, run_underlying_some hs, run_underlying_some hd], h⟩
  · rename_i ki k n hs hd
    exact ⟨_, by simp [convert, run_underlying_some hs, run_underlying_some hd, Conv.intToString], h⟩
  · rename_i e o len cap hs hd
    split at h
    · rename_i he
      cases o with
      | none => exact ⟨_, by simp [convert, run_underlying_some hs, run_underlying_some hd, run_underlying_some he, Conv.bytesToString], h⟩
      | some a =>
        obtain ⟨bs, hl, hc, hk⟩ := h
        refine ⟨_, ?_, hk⟩
        have h1 := run_loadCells (P := P) (w := w) (a := a) (vs := bs.map fun v => Value.int .u8 (v.toNat : Int)) (n := len) (by simpa using hl) (by
          intro j v hj
          simp only [List.getElem?_map, Option.map_eq_some_iff] at hj
          obtain ⟨b, hb, rfl⟩ := hj
          exact hc j b hb)
        have h2 := run_b2s_loop (P := P) (w := w) bs ByteArray.empty
        simp [convert, run_underlying_some hs, run_underlying_some hd, run_underlying_some he, Conv.bytesToString, h1, -List.map_toArray]
        simpa using h2
    · exact h.elim
  · exact h.elim

theorem extractD_run {x : Value} {i : Nat} {K : Value → Prop} (h : extractD x i K) : ∃ u, (Instr.extract x i).run P w = .ok u w ∧ K u := by
  unfold extractD at h
  split at h
  · rename_i vs
    split at h
    · rename_i v hv
      have hv' : vs[i]? = some v := by simpa using hv
      exact ⟨v, by simp [Instr.extract, hv'], h⟩
    · exact h.elim
  · exact h.elim

theorem ptr_selfN {t e : TypeId} {q : Option Addr} (d : Nat) (ht : P.underlying t = some (.pointer e)) (hz : Nat.beq (P.cellsOf e) 0 = false) : (Op.equalIn (d + 1) t (.pointer q) (.pointer q)).run P w = .ok true w := by
  obtain ⟨j, hj⟩ := beq_zero_info hz
  have hn : ¬ P.cellsOf e = 0 := fun e => by rw [e] at hz; simp at hz
  cases q with
  | none => simp [Op.equalIn, run_underlying_some ht]
  | some a => simp [Op.equalIn, run_underlying_some ht, run_sizeOf hj, hn, sameAddr]
theorem ptr_self {t e : TypeId} {q : Option Addr} (ht : P.underlying t = some (.pointer e)) (hz : Nat.beq (P.cellsOf e) 0 = false) : (Op.equal t (.pointer q) (.pointer q)).run P w = .ok true w := ptr_selfN 9999 ht hz
theorem nil_eqN {t : TypeId} {ms : Array (String × TypeId)} {a : Value} {b : Bool} (d : Nat) (hu : P.underlying t = some (.interface ms)) (h : (a = .nilIface ∧ b = true) ∨ ((∃ t' v, a = .iface t' v) ∧ b = false)) : (Op.equalIn (d + 1) t a .nilIface).run P w = .ok b w := by
  rcases h with ⟨rfl, rfl⟩ | ⟨⟨t', v, rfl⟩, rfl⟩ <;> simp [Op.equalIn, run_underlying_some hu]
theorem isNilI_inv {a : Value} {K : Bool → Prop} (h : isNilI a K) : ∃ b, ((a = .nilIface ∧ b = true) ∨ ((∃ t' v, a = .iface t' v) ∧ b = false)) ∧ K b := by
  unfold isNilI at h
  split at h
  · exact ⟨true, .inl ⟨rfl, rfl⟩, h⟩
  · exact ⟨false, .inr ⟨⟨_, _, rfl⟩, rfl⟩, h⟩
  · exact h.elim
theorem nilX_run {op : BinOp} {t : TypeId} {x y : Operand} {a : Value} {K : Value → Prop} (hp : nilCmp P t y = true) (h : nilX op a K) :
    y = .const .nilIface ∧ ∃ u, (do eqGuard op t x y a .nilIface; binOp op t a .nilIface : Sem Value).run P w = .ok u w ∧ K u := by
  unfold nilCmp at hp
  split at hp
  · rename_i ms hu
    split at hp
    · refine ⟨rfl, ?_⟩
      have hg : ∀ (op : BinOp), (eqGuard op t x (.const .nilIface) a .nilIface).run P w = .ok () w ∨ ∀ b, ¬ ((a = .nilIface ∧ b = true) ∨ ((∃ t' v, a = .iface t' v) ∧ b = false)) := by
        intro op
        cases a with
        | nilIface => left; cases op <;> first | rfl | (cases x <;> rfl)
        | iface t' v => left; cases op <;> rfl
        | _ => right; intro b hb; rcases hb with ⟨e, _⟩ | ⟨⟨_, _, e⟩, _⟩ <;> cases e
      unfold nilX at h
      split at h
      · obtain ⟨b, hb, hk⟩ := isNilI_inv h
        have h1 : (Op.equal t a .nilIface).run P w = .ok b w := nil_eqN 9999 hu hb
        refine ⟨.bool b, ?_, hk⟩
        have h2 : (binOp .eql t a .nilIface).run P w = .ok (.bool b) w := by
          rcases hb with ⟨rfl, rfl⟩ | ⟨⟨t', v, rfl⟩, rfl⟩ <;> (simp only [binOp, Sem.run_bind, h1, Result.andThen_ok]; rfl)
        rcases hg .eql with hg | hg
        · simp only [Sem.run_bind, hg, Result.andThen_ok, h2]
        · exact absurd hb (hg b)
      · obtain ⟨b, hb, hk⟩ := isNilI_inv h
        have h1 : (Op.equal t a .nilIface).run P w = .ok b w := nil_eqN 9999 hu hb
        refine ⟨.bool (!b), ?_, hk⟩
        have h2 : (binOp .neq t a .nilIface).run P w = .ok (.bool (!b)) w := by
          rcases hb with ⟨rfl, rfl⟩ | ⟨⟨t', v, rfl⟩, rfl⟩ <;> (simp only [binOp, Sem.run_bind, h1, Result.andThen_ok]; rfl)
        rcases hg .neq with hg | hg
        · simp only [Sem.run_bind, hg, Result.andThen_ok, h2]
        · exact absurd hb (hg b)
      · exact h.elim
    · cases hp
  · cases hp
theorem sameD_run {op : BinOp} {t : TypeId} {x y : Operand} {a b : Value} {K : Value → Prop} (hp : ptrCmp P t y = true) (h : sameD op a b K) :
    ∃ u, (do eqGuard op t x y a b; binOp op t a b : Sem Value).run P w = .ok u w ∧ K u := by
  unfold ptrCmp at hp
  split at hp
  · rename_i e ht
    split at hp
    · cases hp
    · rename_i hz _
      unfold sameD at h
      split at h
      · rename_i p q
        obtain ⟨rfl, hk⟩ := h
        refine ⟨_, ?_, hk⟩
        have hg : ∀ y', (eqGuard .eql t x y' (.pointer p) (.pointer p)).run P w = .ok () w := fun _ => rfl
        have hb : (binOp .eql t (.pointer p) (.pointer p)).run P w = .ok (.bool true) w := by
          simp only [binOp, Sem.run_bind, ptr_self ht hz, Result.andThen_ok]; rfl
        simp only [Sem.run_bind, hg, Result.andThen_ok, hb]
      · rename_i p q
        obtain ⟨rfl, hk⟩ := h
        refine ⟨_, ?_, hk⟩
        have hg : ∀ y', (eqGuard .neq t x y' (.pointer p) (.pointer p)).run P w = .ok () w := fun _ => rfl
        have hb : (binOp .neq t (.pointer p) (.pointer p)).run P w = .ok (.bool false) w := by
          simp only [binOp, Sem.run_bind, ptr_self ht hz, Result.andThen_ok]; rfl
        simp only [Sem.run_bind, hg, Result.andThen_ok, hb]
      · exact h.elim
    · cases hp
  · cases hp

theorem isT_inv {x : Value} {t : TypeId} {Y : Value → Prop} {N : Prop} (h : isT x t Y N) : (∃ p, x = .iface t p ∧ Y p) ∨ ((x = .nilIface ∨ ∃ t' p, x = .iface t' p ∧ t' ≠ t) ∧ N) := by
  cases x <;> unfold isT at h <;> simp only at h
  case iface t' p =>
    cases hb : Nat.beq t' t <;> rw [hb] at h <;> simp only at h
    · exact .inr ⟨.inr ⟨t', p, rfl, fun e => by rw [e] at hb; simp at hb⟩, h⟩
    · obtain rfl := Nat.eq_of_beq_eq_true hb
      exact .inl ⟨p, rfl, h⟩
  case nilIface => exact .inr ⟨.inl rfl, h⟩
theorem isP_inv {x : Value} {t : TypeId} {Y : Option Addr → Prop} {N : Prop} (h : isP x t Y N) : (∃ o, x = .iface t (.pointer o) ∧ Y o) ∨ ((x = .nilIface ∨ ∃ t' p, x = .iface t' p ∧ t' ≠ t) ∧ N) := by
  cases x <;> unfold isP at h <;> simp only at h
  case iface t' p =>
    cases hb : Nat.beq t' t <;> rw [hb] at h <;> simp only at h
    · exact .inr ⟨.inr ⟨t', p, rfl, fun e => by rw [e] at hb; simp at hb⟩, h⟩
    · obtain rfl := Nat.eq_of_beq_eq_true hb
      cases p <;> simp only at h
      case pointer o => exact .inl ⟨o, rfl, h⟩
  case nilIface => exact .inr ⟨.inl rfl, h⟩
theorem isZ_inv {x : Value} {t : TypeId} {Y N : Prop} (h : isZ x t Y N) : (x = .iface t (.agg #[]) ∧ Y) ∨ ((x = .nilIface ∨ ∃ t' p, x = .iface t' p ∧ t' ≠ t) ∧ N) := by
  cases x <;> unfold isZ at h <;> simp only at h
  case iface t' p =>
    cases hb : Nat.beq t' t <;> rw [hb] at h <;> simp only at h
    · exact .inr ⟨.inr ⟨t', p, rfl, fun e => by rw [e] at hb; simp at hb⟩, h⟩
    · obtain rfl := Nat.eq_of_beq_eq_true hb
      obtain ⟨rfl, h⟩ := h
      exact .inl ⟨rfl, h⟩
  case nilIface => exact .inr ⟨.inl rfl, h⟩
theorem asX_inv {x : Value} {t : TypeId} {Y : Value → Prop} {N : Prop} (h : asX P x t Y N) : (∃ p, x = .iface t p ∧ Y p) ∨ ((x = .nilIface ∨ ∃ t' p, x = .iface t' p ∧ t' ≠ t) ∧ N) := by
  unfold asX at h
  split at h
  · split at h
    · rcases isZ_inv h with ⟨e, hk⟩ | hk
      · exact .inl ⟨_, e, hk⟩
      · exact .inr hk
    · exact isT_inv h
  · split at h
    · rcases isP_inv h with ⟨o, e, hk⟩ | hk
      · exact .inl ⟨_, e, hk⟩
      · exact .inr hk
    · exact isT_inv h

theorem assertD_run {xt : TypeId} {x : Value} {asserted : TypeId} {ok : Bool} {K : Value → Prop} (h : assertD P x asserted ok K) : ∃ u, (Instr.typeAssert x xt asserted ok).run P w = .ok u w ∧ K u := by
  unfold assertD at h
  split at h
  · exact h.elim
  · rename_i d hni hd
    split at h
    · split at h
      · rename_i i hi
        split at h
        · rename_i z hz
          rcases asX_inv h with ⟨p, rfl, hk⟩ | ⟨rfl | ⟨t', p, rfl, hne⟩, hk⟩
          · exact ⟨_, by cases d <;> first | exact absurd rfl (hni _) | simp [Instr.typeAssert, run_underlying_some hd], hk⟩
          · exact ⟨_, by cases d <;> first | exact absurd rfl (hni _) | simp [Instr.typeAssert, run_underlying_some hd, run_zeroValue hi hz], hk⟩
          · exact ⟨_, by cases d <;> first | exact absurd rfl (hni _) | simp [Instr.typeAssert, run_underlying_some hd, hne, run_zeroValue hi hz], hk⟩
        · exact h.elim
      · exact h.elim
    · rcases asX_inv h with ⟨p, rfl, hk⟩ | ⟨_, hk⟩
      · exact ⟨_, by cases d <;> first | exact absurd rfl (hni _) | simp [Instr.typeAssert, run_underlying_some hd], hk⟩
      · exact hk.elim
  · exact h.elim

theorem setL_arr : ∀ (vs cs : List Value) (off i : Nat), (vs.zipIdx i).foldl (fun (c : Array Value) p => c.setIfInBounds (off + p.2) p.1) cs.toArray = (setL cs (off + i) vs).toArray
  | [], cs, off, i => rfl
  | v :: r, cs, off, i => by
    simp only [List.zipIdx_cons, List.foldl_cons, setL]
    rw [List.setIfInBounds_toArray, setL_arr r]
    rw [Nat.add_assoc]

theorem fillD_run {place : Nat → Option (Nat × Nat)} {raw : Nat → Bool} : ∀ {parts : List (Nat × Value)} {cs : List Value} {K : List Value → Prop}, fillD place raw parts cs K →
    ∃ cs', Instr.fill place cs.toArray parts = some cs'.toArray ∧ K cs'
  | [], cs, K, h => ⟨cs, rfl, h⟩
  | (i, v) :: r, cs, K, h => by
    unfold fillD at h
    cases hp : place i with
    | none => simp [hp] at h
    | some q =>
      obtain ⟨off, size⟩ := q
      simp only [hp] at h
      have hh : ∃ (h1 : Nat.beq v.cells.toList.length size = true) (h2 : Nat.ble (off + v.cells.toList.length) cs.length = true), fillD place raw r (setL cs off v.cells.toList) K := by
        split at h
        · split at h
          · rename_i h1 h2
            obtain ⟨hv, h⟩ := h
            have e : v.cells.toList = [v] := by rw [hv]
            rw [e]
            exact ⟨h1, h2, h⟩
          · exact h.elim
        · split at h
          · rename_i h1 h2
            exact ⟨h1, h2, h⟩
          · exact h.elim
      clear h
      obtain ⟨h1, h2, h⟩ := hh
      · obtain ⟨cs', h3, h4⟩ := fillD_run h
        refine ⟨cs', ?_, h4⟩
        have e1 : v.cells.size = size := by have := Nat.eq_of_beq_eq_true h1; simpa using this
        have e2 : off + v.cells.size ≤ cs.length := by have := Nat.le_of_ble_eq_true h2; simpa using this
        unfold Instr.fill
        simp only [hp]
        have hc : ¬ ((v.cells.size ≠ size || off + v.cells.size > cs.toArray.size) = true) := by simp [e1]; omega
        rw [if_neg (by simpa using hc)]
        have e3 := setL_arr v.cells.toList cs off 0
        simp only [Nat.add_zero] at e3
        rw [← h3, ← e3]
        congr 1
        rw [← Array.foldl_toList]
        simp

theorem run_places (ps : List Field) (h : infoAll P ps = true) : (ps.mapM fun f => (do pure (f.offset, ← sizeOf f.type) : Sem (Nat × Nat))).run P w = .ok (ps.map fun f => (f.offset, P.cellsOf f.type)) w := by
  induction ps with
  | nil => simp
  | cons f r ih =>
    unfold infoAll at h
    cases hi : P.info? f.type with
    | none => simp [hi] at h
    | some i =>
      simp only [hi] at h
      have h1 := ih h
      simp only [List.mapM_cons, Sem.run_bind, run_sizeOf hi, Result.andThen_ok, Sem.run_pure, h1, List.map_cons]

theorem buildD_run {t : TypeId} {parts : List (Nat × Value)} {K : Value → Prop} (h : buildD P t parts K) : ∃ u, (Instr.build t parts.toArray).run P w = .ok u w ∧ K u := by
  unfold buildD at h
  split at h
  · rename_i zs fs hz hu
    obtain ⟨i, v, hi, hv, hzs⟩ := zeroL_info hz
    split at h
    · rename_i hall
      obtain ⟨cs', h1, h2⟩ := fillD_run h
      refine ⟨_, ?_, h2⟩
      have hp := run_places (P := P) (w := w) fs.toList hall
      have hc : v.cells = zs.toArray := by rw [← hzs]
      have hf : (fun i => ((fs.toList.map fun f => (f.offset, P.cellsOf f.type)).toArray)[i]?) = placesF P fs.toList := by
        funext k
        unfold placesF
        simp
        cases fs[k]? <;> rfl
      have hp' : (fs.mapM fun f => (do pure (f.offset, ← sizeOf f.type) : Sem (Nat × Nat))).run P w = .ok ((fs.toList.map fun f => (f.offset, P.cellsOf f.type)).toArray) w := by
        rw [Array.mapM_eq_mapM_toList]
        simp only [Sem.run_map, hp, Result.andThen_ok]
      simp only [Instr.build, Sem.run_bind, run_zeroValue hi hv, Result.andThen_ok, run_underlying_some hu, hp', hc]
      simp only [Sem.run_bind, hf, h1]
      rfl
    · exact h.elim
  · rename_i zs n e hz hu
    obtain ⟨i, v, hi, hv, hzs⟩ := zeroL_info hz
    split at h
    · rename_i hz0
      obtain ⟨j, hj⟩ := beq_zero_info hz0
      obtain ⟨cs', h1, h2⟩ := fillD_run h
      refine ⟨_, ?_, h2⟩
      have hc : v.cells = zs.toArray := by rw [← hzs]
      simp only [Instr.build, Sem.run_bind, run_zeroValue hi hv, Result.andThen_ok, run_underlying_some hu, run_sizeOf hj, hc, h1]
      rfl
    · exact h.elim
  · exact h.elim

theorem lenD_run {ts : Array TypeId} {t ty : TypeId} {x : Value} {args : Array Value} {K : Value → Prop} (ht : ts[0]? = some t) (hx : args[0]? = some x) (h : lenD P t x K) :
    ∃ u, (Builtin.len_ ts ty args).run P w = .ok u w ∧ K u := by
  unfold lenD at h
  split at h
  · exact ⟨_, by simp [Builtin.len_, ht, hx, run_underlying_some ‹P.underlying t = _›, goInt], h⟩
  · exact ⟨_, by simp [Builtin.len_, ht, hx, run_underlying_some ‹P.underlying t = _›, goInt], h⟩
  · exact ⟨_, by simp [Builtin.len_, ht, hx, run_underlying_some ‹P.underlying t = _›, goInt], h⟩
  · exact h.elim

theorem capD_run {ts : Array TypeId} {t ty : TypeId} {x : Value} {args : Array Value} {K : Value → Prop} (ht : ts[0]? = some t) (hx : args[0]? = some x) (h : capD P t x K) :
    ∃ u, (Builtin.cap_ ts ty args).run P w = .ok u w ∧ K u := by
  unfold capD at h
  split at h
  · exact ⟨_, by simp [Builtin.cap_, ht, hx, run_underlying_some ‹P.underlying t = _›, goInt], h⟩
  · exact ⟨_, by simp [Builtin.cap_, ht, hx, run_underlying_some ‹P.underlying t = _›, goInt], h⟩
  · exact h.elim

theorem minD_run : ∀ {r : List Value} {x : Value} {K : Value → Prop}, minD x r K → ∃ u, (r.foldlM Builtin.min2 x).run P w = .ok u w ∧ K u
  | [], x, K, h => ⟨x, by simp, h⟩
  | y :: r, x, K, h => by
    unfold minD at h
    split at h
    · rename_i k a k' b
      split at h
      · rename_i hk
        obtain rfl := kEq_eq hk
        obtain ⟨u, h1, h2⟩ := minD_run h
        exact ⟨u, by simpa [List.foldlM_cons, Builtin.min2, minI] using h1, h2⟩
      · exact h.elim
    · exact h.elim

theorem maxD_run : ∀ {r : List Value} {x : Value} {K : Value → Prop}, maxD x r K → ∃ u, (r.foldlM Builtin.max2 x).run P w = .ok u w ∧ K u
  | [], x, K, h => ⟨x, by simp, h⟩
  | y :: r, x, K, h => by
    unfold maxD at h
    split at h
    · rename_i k a k' b
      split at h
      · rename_i hk
        obtain rfl := kEq_eq hk
        obtain ⟨u, h1, h2⟩ := maxD_run h
        exact ⟨u, by simpa [List.foldlM_cons, Builtin.max2, maxI] using h1, h2⟩
      · exact h.elim
    · exact h.elim

end
end Go.Proofs.Ytkgocfaajfaidaa.D
