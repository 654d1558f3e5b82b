/- What the statements ask: pairs, equal, Data, awake. -/
import Derived.Test.YtkgocfaajfaidaaKvG
namespace Go.Proofs.Ytkgocfaajfaidaa
open Go D
set_option linter.unusedVariables false
set_option linter.unusedSimpArgs false
namespace Kv
open Wal (packL unpackL Holds appM lg0 Lg secs LRow)
open Snap (KT fitsM saveM loadM okAt)
open Disk (M readAt crash)

set_option maxHeartbeats 1000000 in
theorem pairs_spec {h : Heap} {mu im F : Nat → Prop} {d s g t : Nat} {x : St} (ha : At h mu im F d s g t x) (hl : x.l.length ≤ 100000000) {R : Sl → Heap → Prop}
    (hk : ∀ r h', Nw h h' → Own h h' 2 r (pcells x.l) → R r h') : CallT Try.prog law9_pairs_no [.pointer (some ⟨s, 0, none⟩)] h [.sc .sl] R := by
  have hcall := law9_pairs_call (some ⟨s, 0, none⟩) (R := R) (h := h)
  apply hcall; clear hcall
  unfold law9_pairs
  refine newB_row ?_
  intro h2 s2 r2 k2
  have a2 := ha.nw k2
  refine tree_spec a2 ?_
  refine treeFrom a2.tree (fun b hb => (a2.f b hb).1) ?_
  intro rv h9 n9 s9 sq
  rw [from_nok] at sq
  have r9 := n9.row r2 (fun h => h)
  have z9 := n9.size
  have n09 := k2.trans' n9
  have fl : ∀ b, F b → b < h.size := fun b hb => (ha.f b hb).1
  refine rng_grow sq (fun b hb => ?_) (fun b => b = h.size) (fun b hb => ⟨fun hd => ?_, ?_⟩) (fun ex pre O hh => ex = .nrm ∧ ∃ s : Sl, Row hh h.size [.slice s.a s.len s.cap] ∧ Own h9 hh 2 s (pcells pre) ∧ (∀ b, O b ↔ b = h.size ∨ blk s.a b) ∧ (∀ b, blk s.a b → ∃ cs, Row hh b cs)) ?_ ?_ ?_ ?_ ?_ ?_ ?_ ?_
  · rcases hb with hb | hb | hb
    · have := fl b hb; omega
    · omega
    · omega
  · have hb' : b = h.size := hb
    rcases hd with hd | hd | hd
    · have := fl b hd; omega
    · omega
    · omega
  · have hb' : b = h.size := hb; omega
  · refine ⟨rfl, ⟨none, 0, 0⟩, r9, Own.nil _ _ _, fun b => ⟨fun e => .inl e, fun e => ?_⟩, fun b hb => ?_⟩
    · rcases e with e | ⟨y, e, _⟩
      · exact e
      · cases e
    · obtain ⟨y, e, _⟩ := hb; cases e
  · rintro ex pre O hx hy ⟨rfl, s, w1, w2, w3, w4⟩ hk'
    refine ⟨rfl, s, hk'.row w1 (fun e => e.1 ((w3 _).2 (.inl rfl))), w2.keep hk' (fun b hb e => e.1 ((w3 b).2 (.inr hb))), w3, fun b hb => ?_⟩
    obtain ⟨cs, hcs⟩ := w4 b hb
    exact ⟨cs, hk'.row hcs (fun e => e.1 ((w3 b).2 (.inr hb)))⟩
  · rintro ex pre O hx ⟨rfl, s, w1, w2, w3, w4⟩ b hb
    rcases (w3 b).1 hb with rfl | e
    · exact ⟨_, w1⟩
    · exact w4 b e
  · rintro pre x O h4' Q ⟨_, s, w1, w2, w3, w4⟩ k9 hpre hQ
    obtain ⟨hi', ex⟩ := pre_get hpre
    have sl := w2.len
    rw [pcells_len] at sl
    have zk := k9.size
    refine ldL_row (o := 0) w1 rfl ?_
    refine newB_row ?_
    intro h82 s82 r82 k82
    refine ldRow_row (o := 0) r82 (by simp) ?_
    rw [List.drop_zero, List.take_of_length_le (by simp)]
    have wS := w2.nw k82
    refine SlR.app wS.sl (new := [.string x.1, .string x.2]) rfl rfl (by intro u hu; rcases List.mem_cons.1 hu with rfl | hu; rfl; rcases List.mem_cons.1 hu with rfl | hu; rfl; cases hu) (by show (2 * (s.len + 1) + 1024) * 32 ≤ _; omega) ?_
    intro a' c' h85 v1 v2 v3
    have sb : ∀ b, blk s.a b → h9.size ≤ b ∧ b < h4'.size := fun b hb => ⟨w2.fresh b hb, w2.lt hb⟩
    have ab : ∀ b, blk a' b → blk s.a b ∨ h4'.size ≤ b := fun b hb => by
      rcases v3 with ⟨e, _⟩ | ⟨e, _⟩
      · rw [e] at hb; exact .inl hb
      · rw [e, blk_some] at hb; simp only at hb; exact .inr (by omega)
    have w1' : Row h85 h.size [.slice s.a s.len s.cap] := v2.row (k82.row w1 (fun h => h)) (fun e => by have := sb _ e; omega)
    refine stC_row (o := 0) w1' (by simp) rfl ?_
    intro h87 s87 r87 k87
    have bO : Keep (fun b => O b ∨ h4'.size ≤ b) h4' h87 := by
      have e1 := k82.mono (T := fun b => O b ∨ h4'.size ≤ b) (fun b _ e => e.elim)
      have e2 := e1.trans v2 (fun b _ e => .inl ((w3 b).2 (.inr e)))
      exact e2.trans k87 (fun b _ e => .inl ((w3 b).2 (.inl e)))
    have v1' : SlR h87 2 a' (s.len + 1) c' (pcells pre ++ [.string x.1, .string x.2]) := v1.keep k87 (fun b hb e => by
      have e' : b = h.size := e
      rcases ab b hb with q | q
      · have := sb b q; omega
      · omega)
    refine hQ .nrm (fun b => b = h.size ∨ blk a' b) h87 ⟨rfl, ⟨a', s.len + 1, c'⟩, r87, ⟨?_, fun b hb => ?_⟩, fun b => Iff.rfl, fun b hb => ?_⟩ bO ?_
    · rw [pcells_app]; exact v1'
    · rcases ab b hb with q | q
      · exact (sb b q).1
      · omega
    · rcases v1' with ⟨e, _⟩ | ⟨b', o', cs, e, hr, _⟩
      · have hb' : blk a' b := hb
        rw [e] at hb'; obtain ⟨y, e2, _⟩ := hb'; cases e2
      · have hb' : blk a' b := hb
        rw [e, blk_some] at hb'
        simp only at hb'
        subst hb'
        exact ⟨cs, hr⟩
    · rintro b (rfl | e)
      · exact ⟨.inl ((w3 _).2 (.inl rfl)), r87.lt⟩
      · refine ⟨(ab b e).imp (fun q => (w3 b).2 (.inr q)) id, v1'.blk_lt e⟩
  · rintro O h' ⟨_, s, w1, w2, w3, w4⟩ k9
    have zk := k9.size
    have nw' : Nw h h' := n09.trans k9 (fun b hb' e => by rcases e with e | e <;> omega)
    refine ldL_row (o := 0) w1 rfl ?_
    intro h23 z23 s23
    refine hk s h23 (shut_nw nw' (Nat.le_refl _) z23 s23) ⟨?_, fun b hb => by have := w2.fresh b hb; omega⟩
    rcases w2.sl with ⟨e1, e2, e3, e4⟩ | ⟨b', o', cs, e1, e2, e3⟩
    · exact .inl ⟨e1, e2, e3, e4⟩
    · exact .inr ⟨b', o', cs, e1, shut_row z23 s23 e2, e3⟩
  · rintro pre O hh ⟨e, _⟩; cases e
  · rintro i pre O hh ⟨e, _⟩; cases e
  · rintro i pre O hh ⟨e, _⟩; cases e

theorem equal_spec {h : Heap} {r1 r2 : Sl} {l : List KV} (p1 : Pr h r1 l) (p2 : Pr h r2 l) (hl : l.length ≤ 1000000000) {R : Bool → Heap → Prop} (hk : R true h) : CallT Try.prog law9_equal_no [.slice r1.a r1.len r1.cap, .slice r2.a r2.len r2.cap] h [.sc .bool] R := by
  have hcall := law9_equal_call r1 r2 (R := R) (h := h)
  apply hcall; clear hcall
  unfold law9_equal
  have e1 := p1.len
  have e2 := p2.len
  refine cnd_f (by rw [e1, e2]; simp) ?_
  refine LoopT.intro (fun (i : Int) h' => h' = h ∧ ∃ k : Nat, i = (k : Int) ∧ k ≤ l.length) (fun i _ => ((l.length : Int) - i).toNat) ⟨rfl, 0, rfl, Nat.zero_le _⟩ ?_
  rintro _ h' ⟨rfl, k, rfl, hk'⟩
  refine cnd_dec (fun hi => ?_) (fun hi => hk)
  have hkl : k < l.length := by omega
  refine p1.at hkl ?_
  intro x c1 c2
  refine ldS_at c1 (ldS_at c2 ?_)
  refine p2.at hkl ?_
  intro y d1 d2
  refine ldS_at d1 (ldS_at d2 ?_)
  rw [seq_self, seq_self]
  refine cnd_f rfl ?_
  have ew : w64 ((k : Int) + 1) = ((k + 1 : Nat) : Int) := by rw [w64_id (by omega) (by omega)]; omega
  exact ⟨⟨rfl, k + 1, ew, by omega⟩, by rw [ew]; omega⟩

theorem data_spec {h : Heap} {n : Int} {R : Int × Int → Heap → Prop} (hk : R (if n < 0 then (0, 0) else (w64 (w64 (n.tdiv 8) * 4), w64 (n - w64 (w64 (n.tdiv 8) * 4)))) h) : CallT Try.prog kv_Data_no [.int .i64 n] h [.sc (.int .i64), .sc (.int .i64)] R := by
  have hcall := kv_Data_call n (R := R) (h := h)
  apply hcall; clear hcall
  unfold kv_Data
  refine cnd_dec (fun c => ?_) (fun c => ?_)
  · rw [if_pos c] at hk; exact hk
  · rw [if_neg c] at hk; exact hk
theorem rdata_spec {h : Heap} {n : Int} {R : Int × Int → Heap → Prop} (hk : R (if n < 0 then (0, 0) else (w64 (w64 (n.tdiv 8) * 4), w64 (n - w64 (w64 (n.tdiv 8) * 4)))) h) : CallT Try.prog ref9_Data_no [.int .i64 n] h [.sc (.int .i64), .sc (.int .i64)] R := by
  have hcall := ref9_Data_call n (R := R) (h := h)
  apply hcall; clear hcall
  unfold ref9_Data
  rw [Int.mul_comm 4]
  refine cnd_dec (fun c => ?_) (fun c => ?_)
  · rw [if_pos c] at hk; exact hk
  · rw [if_neg c] at hk; exact hk

/-- a new store on a new device -/
def new0 (n : Nat) : St := ⟨⟨List.replicate n (noughts 256), [], 0, 0⟩, n / 8, 0, lg0 (2 * (n / 8 : Nat)) (2 * (n / 8 : Nat)) 0, [], 0⟩
theorem new_open {h : Heap} {n : Nat} (h0 : 32 ≤ n) (h1 : n ≤ 4096) {K : Option Addr × Int → Option Addr × Int → Heap → Prop}
    (hk : ∀ d mu im F s g t h', At h' mu im F d s g t (new0 n) → Inv (new0 n) → Nw h h' → (∀ b, mu b → h.size ≤ b) → h.size ≤ s → h.size ≤ g → K (some ⟨d, 0, none⟩, 0) (some ⟨s, 0, none⟩, 0) h') :
    CallT Try.prog disk_New_no [.int .i64 (n : Int)] h [.sc .ptr, .sc (.int .i64)] fun (r1 : Option Addr × Int) h2 => CallT Try.prog kv_Open_no [.pointer r1.1] h2 [.sc .ptr, .sc (.int .i64)] fun (r3 : Option Addr × Int) h4 => K r1 r3 h4 := by
  refine Disk.new_spec (by exact ⟨by omega, by omega⟩) (fun e => by omega) ?_
  intro _ _ d mu im h2 hnew hr n2
  have hr' : Disk.Rep h2 d mu im (new0 n).m := by
    have e : ((n : Int)).toNat = n := Int.toNat_natCast n
    rw [e] at hr; exact hr
  have inv := inv_new h0 h1
  have z2 := n2.size
  refine open_spec hr' (inv.ops (by show (0 : Int) ≠ 2; omega)) (by show (0 : Int) ≠ 2; omega) ?_
  intro s g t F h4 a4 n4 hs hg hF
  exact hk d mu im F s g t h4 a4 inv (n2.trans' n4) (fun b hb => hnew b (.inl hb)) (by omega) (by omega)

theorem fits_small {q b : Nat} (h : b + 256 ≤ 256 * q) : fitsM (q : Int) (b : Int) = true := by
  unfold Snap.fitsM
  rw [decide_eq_true (p := (1 : Int) ≤ (q : Int)) (by omega), decide_eq_true (p := (0 : Int) ≤ (b : Int)) (by omega), decide_eq_true (by omega)]
  rfl

def chA : Ch := (⟨#[97]⟩, ⟨#[49]⟩, false)
theorem addA : addC [] [chA] = [(⟨#[97]⟩, ⟨#[49]⟩)] := rfl
theorem szA : secs (packL (recsL [chA])).length = 1 := by decide +kernel
theorem mayA : mayC chA = true := by decide +kernel

theorem awake_spec {h : Heap} {R : Bool → Heap → Prop} (hk : ∀ h', Nw h h' → R true h') : CallT Try.prog law9_awake_no [] h [.sc .bool] R := by
  have hcall := law9_awake_call (R := R) (h := h)
  apply hcall; clear hcall
  unfold law9_awake
  refine new_open (n := 64) (by omega) (by omega) ?_
  intro d mu im F s g t h4 a4 inv n4 hmu hs hg
  refine withJ.inl (withJ.inl ?_)
  refine cnd_f rfl (cnd_f rfl ?_)
  refine newB_row ?_
  intro h9 s9 r9 k9
  have a9 := a4.nw k9
  have n9 := n4.trans' k9
  have wl := a4.wr_lt
  have ch9 : Chs h9 (some ⟨h4.size, 0, none⟩) 1 [chA] := by
    refine ⟨rfl, fun i c hi => ?_⟩
    cases i with
    | zero =>
      simp only [List.getElem?_cons_zero, Option.some.injEq] at hi
      subst hi
      exact ⟨_, rfl, by rw [add_mk, r9.cells]; rfl, by rw [add_mk, add_mk, r9.cells]; rfl, by rw [add_mk, add_mk, r9.cells]; rfl⟩
    | succ i => simp at hi
  have hall : ∀ c ∈ [chA], mayC c = true := fun c hc => by rw [List.mem_singleton] at hc; subst hc; exact mayA
  refine commit_spec a9 inv (by show 0 < 999999999; omega) (by show 0 < 999999999; omega) ch9 (by omega) (fun hno => absurd hall hno) ?_ ?_ ?_
  · intro _ hbad
    exfalso
    rcases hbad with hb | hb
    · have e : fitsM ((new0 64).q : Int) ((12 + szL (addC (new0 64).l [chA]) : Nat) : Int) = true := fits_small (by decide)
      rw [e] at hb; cases hb
    · rw [szA] at hb
      exact absurd hb (by decide)
  rotate_left
  · intro hst; exact absurd rfl hst
  intro _ mu' im' F' g' t' x' h11 a11 i11 eq el en e1 e2 est hpos st
  have n11 : Nw h h11 := n9.trans st.keep (fun b hb hw => by
    rcases hw with hw | hw | hw
    · have := hmu b hw; omega
    · omega
    · omega)
  refine data_spec ?_
  refine withJ.inl ?_
  refine cnd_t rfl ?_
  refine commits_spec a11 ?_
  have en' : x'.n = 1 := en
  rw [en']
  refine cnd_t rfl ?_
  refine room_spec a11 i11 ?_
  have hp' := hpos (by rw [szA]; decide)
  rw [szA] at hp'
  have hp'' : x'.L.pos = 1 := hp'
  have lf := i11.lf
  have eq' : x'.q = 8 := eq
  have hroom : x'.L.n - x'.L.pos = 15 := by omega
  rw [hroom]
  refine cnd_t rfl ?_
  refine tree_spec a11 ?_
  refine cnd_t rfl ?_
  refine tree_spec a11 ?_
  refine treeLen a11.tree ?_
  have el' : x'.l = [(⟨#[97]⟩, ⟨#[49]⟩)] := el
  rw [el']
  refine cnd_t rfl ?_
  refine cnd_t (by decide) ?_
  have e5 : ((if (64 : Int) < 0 then ((0 : Int), (0 : Int)) else (w64 (w64 ((64 : Int).tdiv 8) * 4), w64 (64 - w64 (w64 ((64 : Int).tdiv 8) * 4)))).2 == 32) = true := by decide
  rw [e5]
  exact hk h11 n11

theorem kvData_spec {h : Heap} {n : Int} {R : Bool → Heap → Prop} (hk : ∀ h', Nw h h' → R true h') : CallT Try.prog 3 [.int .i64 n] h [.sc .bool] R := by
  have hcall := law9_KvData_call n (R := R) (h := h)
  apply hcall; clear hcall
  unfold law9_KvData
  refine data_spec ?_
  refine rdata_spec ?_
  refine withJ.inl ?_
  refine cnd_t (by simp) (cnd_t (by simp) ?_)
  exact awake_spec hk

end Kv
end Go.Proofs.Ytkgocfaajfaidaa
