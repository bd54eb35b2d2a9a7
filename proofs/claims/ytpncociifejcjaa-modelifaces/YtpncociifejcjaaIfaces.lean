/- ModelIfaces: what the program tells of an interface is what the reference tells: plain, and the walk over any interface. -/
import Derived.Test.YtpncociifejcjaaBits
import Derived.OpenShut
import Derived.Test.YtpncociifejcjaaOpens
import Derived.Test.YtpncociifejcjaaPModelIfacesx
namespace Go.Proofs.Ytpncociifejcjaa.Ifaces
open Go.RowKit Go.Proofs.Ytpncociifejcjaa.PModelIfaces Go.Proofs.YtpncociifejcjaaW.PrintWords Go.Proofs.YtpncociifejcjaaW.PrintLast Go.Proofs.YtpncociifejcjaaW.PrintMore Go.Proofs.YtpncociifejcjaaW.Bits Go.Proofs.YtpncociifejcjaaW.Opens

theorem size_l0 : ∀ (d : Nat) (i o : Int), 0 ≤ i → (32 - i).toNat = d → i ≤ 32 → 0 < o → o * sz i ≤ 4294967296 → Ev (fun k => waymarkref01_size.l0 k o i) (o * sz i)
  | 0, i, o, h0, hd, h1, ho, hb => by
    obtain rfl : i = 32 := by omega
    refine Ev.step (fun k => by rw [waymarkref01_size.l0]) (Ev.neg (by omega) (Ev.some' ?_))
    rw [sz32, Int.mul_one]
  | d + 1, i, o, h0, hd, h1, ho, hb => by
    have hs := sz_half (b := i) (by omega)
    have hp := sz_pos (i + 1)
    have e : 2 * o * sz (i + 1) = o * sz i := by rw [hs, ← Int.mul_assoc, Int.mul_comm o 2]
    have hle : 2 * o ≤ 2 * o * sz (i + 1) := by
      have h1 := Int.mul_le_mul_of_nonneg_left (show 1 ≤ sz (i + 1) by omega) (show 0 ≤ 2 * o by omega)
      rwa [Int.mul_one] at h1
    refine Ev.step (fun k => by rw [waymarkref01_size.l0]) (Ev.pos (by omega) ?_)
    rw [u64w (by omega) (by omega), w64 (by omega) (by omega), ← e]
    exact size_l0 d (i + 1) (2 * o) (by omega) (by omega) (by omega) (by omega) (by omega)
theorem ev_size {b : Int} (h0 : 0 ≤ b) (h1 : b ≤ 32) : Ev (fun k => waymarkref01_size.f k b) (sz b) := by
  have h := size_l0 _ b 1 h0 rfl h1 (by omega) (by have := sz_bound h0 h1; omega)
  rw [Int.one_mul] at h
  exact h

/-- The subnet, as both tell it. -/
def sub (a b : Int) : Int × Int × Int := if b < 0 ∨ 32 < b then (0, 0, 1) else (a - a % sz b, b, 0)
theorem ev_Subnet {a b : Int} (h0 : 0 ≤ a) (h1 : a < 4294967296) : Ev (fun k => waymarkref01_Subnet.f k a b) (sub a b) := by
  unfold waymarkref01_Subnet.f
  by_cases c : b < 0
  · refine Ev.pos c (Ev.step (fun k => by rw [waymarkref01_Subnet.j0]) (Ev.pos rfl (Ev.some' ?_)))
    unfold sub
    rw [if_pos (Or.inl c)]
  · refine Ev.neg c (Ev.step (fun k => by rw [waymarkref01_Subnet.j0]) ?_)
    by_cases c2 : b > 32
    · refine Ev.pos (decide_eq_true c2) (Ev.some' ?_)
      unfold sub
      rw [if_pos (Or.inr c2)]
    · have hs := sz_bound (b := b) (by omega) (by omega)
      refine Ev.neg (by simp; omega) (Ev.bind (ev_size (by omega) (by omega)) (Ev.neg (by omega) (Ev.bind (ev_size (by omega) (by omega)) (Ev.some' ?_))))
      have hq0 : 0 ≤ a / sz b := Int.ediv_nonneg h0 (by omega)
      have hq1 : a / sz b ≤ a := Int.ediv_le_self _ h0
      have hm : a / sz b * sz b = a - a % sz b := by have := Int.mul_ediv_add_emod a (sz b); rw [Int.mul_comm]; omega
      have hm0 := Int.emod_nonneg a (show sz b ≠ 0 by omega)
      have hm1 : a % sz b ≤ a := by have := Int.emod_lt_of_pos a (show 0 < sz b by omega); have := Int.mul_nonneg hq0 (show 0 ≤ sz b by omega); omega
      rw [u64w h0 (by omega), Int.tdiv_eq_ediv_of_nonneg h0, u64w (n := a / sz b) hq0 (by omega), u64w (by omega) (by omega)]
      unfold sub
      rw [if_neg (by omega), hm]
      congr 1
      omega
theorem prog_Subnet {a b : Int} (h0 : 0 ≤ a) (h1 : a < 4294967296) : addr_Subnet.f a b = some (sub a b) := by
  unfold addr_Subnet.f addr_behind.f sub
  by_cases c : b < 0
  · rw [if_pos c, if_pos (Or.inl c)]
  · rw [if_neg c]
    by_cases c2 : b > 32
    · rw [if_pos c2, if_pos (Or.inr c2)]
    · obtain ⟨e1, e2⟩ := behind_val (b := b) (by omega) (by omega)
      rw [if_neg c2, e1, if_pos (show 0 ≤ 32 - b by omega), e2]
      simp only [Option.bind_some]
      rw [andNot_mask h0 h1 (by omega) (by omega), if_neg (show ¬ (b < 0 ∨ 32 < b) by omega)]

theorem pure {n v : ByteArray} {a b : Int} {d : Bool} {i o : ByteArray} {s ar co : Int} {pa : Bool} (h0 : 0 ≤ a) (h1 : a < 4294967296) : ∃ k, waymarklaw12_ModelIfaces.f k n v a b d i o s ar co pa = some true := by
  refine Ev.rounds (g := fun k => waymarklaw12_ModelIfaces.f k n v a b d i o s ar co pa) ?_
  have hP := prog_Subnet (b := b) h0 h1
  have hR := ev_Subnet (b := b) h0 h1
  have hA : ∃ t, model_addressed.f n v a b d i o s ar co pa = some t ∧ (t = true ↔ ¬ (a = 0 ∧ b = 0)) := by
    unfold model_addressed.f
    by_cases ca : a = 0
    · exact ⟨b != 0, by rw [if_pos ca], by simp [ca]⟩
    · exact ⟨true, by rw [if_neg ca], by simp [ca]⟩
  obtain ⟨t, hA, ht⟩ := hA
  have hS : Ev (fun k => waymarkref12_Subnet.f k n v a b d i o s ar co pa) (if t = true then ((sub a b).1, (sub a b).2.1, ((sub a b).2.2 == 0)) else (0, 0, false)) := by
    unfold waymarkref12_Subnet.f
    by_cases ca : a = 0
    · refine Ev.pos ca ?_
      by_cases cb : b = 0
      · have : ¬ t = true := fun h => ht.1 h ⟨ca, cb⟩
        exact Ev.pos cb (Ev.some' (by rw [if_neg this]))
      · have : t = true := ht.2 (fun h => cb h.2)
        refine Ev.neg cb (Ev.bind hR (Ev.some' (by rw [if_pos this])))
    · have : t = true := ht.2 (fun h => ca h.1)
      exact Ev.neg ca (Ev.bind hR (Ev.some' (by rw [if_pos this])))
  have hM : model_Subnet.f n v a b d i o s ar co pa = some (if t = true then ((sub a b).1, (sub a b).2.1, ((sub a b).2.2 == 0)) else (0, 0, false)) := by
    unfold model_Subnet.f
    rw [hA]
    simp only [Option.bind_some]
    split
    · rw [hP]; rfl
    · rfl
  have hL : ∃ q, model_Alive.f n v a b d i o s ar co pa = some q ∧ waymarkref12_Alive.f n v a b d i o s ar co pa = some q := by
    unfold model_Alive.f waymarkref12_Alive.f
    by_cases cd : d = true
    · exact ⟨false, by rw [if_pos cd], by rw [if_pos cd]⟩
    · refine ⟨t, by rw [if_neg cd, hA]; rfl, ?_⟩
      rw [if_neg cd]
      exact hA
  obtain ⟨q, hq1, hq2⟩ := hL
  unfold waymarklaw12_ModelIfaces.f
  rw [hM]
  simp only [Option.bind_some]
  refine Ev.bind hS (Ev.pos (by simp) (Ev.pos (by simp) ?_))
  rw [hq1, hq2]
  exact Ev.some' (by simp)

abbrev T := 25
/-- An interface's fields, in line. -/
def kd : Kd (ByteArray × ByteArray × Int × Int × Bool × ByteArray × ByteArray × Int × Int × Int × Bool) :=
  Kd.iso (Kd.pair Kd.string (Kd.pair Kd.string (Kd.pair (Kd.int .u32) (Kd.pair (Kd.int .i64) (Kd.pair Kd.bool (Kd.pair Kd.string (Kd.pair Kd.string (Kd.pair (Kd.int .u8) (Kd.pair (Kd.int .i64) (Kd.pair (Kd.int .i64) Kd.bool)))))))))) id
theorem opens : Opens Try.prog 25 kd (fun x => (Lit.int .u32 x.2.2.1).wf = true) := by
  refine (Opens.struct Try.underlying25 (by kernel_rfl) (OpensF.cons (n := 1) rfl (by kernel_rfl) (Opens.string Try.underlying9) (OpensF.cons (n := 1) rfl (by kernel_rfl) (Opens.string Try.underlying9) (OpensF.cons (n := 1) rfl (by kernel_rfl) (Opens.int Try.underlying23) (OpensF.cons (n := 1) rfl (by kernel_rfl) (Opens.int Try.underlying3) (OpensF.cons (n := 1) rfl (by kernel_rfl) (Opens.bool Try.underlying4) (OpensF.cons (n := 1) rfl (by kernel_rfl) (Opens.string Try.underlying9) (OpensF.cons (n := 1) rfl (by kernel_rfl) (Opens.string Try.underlying9) (OpensF.cons (n := 1) rfl (by kernel_rfl) (Opens.int Try.underlying5) (OpensF.cons (n := 1) rfl (by kernel_rfl) (Opens.int Try.underlying3) (OpensF.cons (n := 1) rfl (by kernel_rfl) (Opens.int Try.underlying3) (OpensF.one (n := 1) rfl (by kernel_rfl) (Opens.bool Try.underlying4)))))))))))) id id (fun _ => rfl)).imp ?_
  intro y hy
  exact hy.2.2.1
theorem kd_open {w : World} {x : ByteArray × ByteArray × Int × Int × Bool × ByteArray × ByteArray × Int × Int × Int × Bool} {cs : List Value} (h : kd.K w x cs) :
    cs = [.string x.1, .string x.2.1, .int .u32 x.2.2.1, .int .i64 x.2.2.2.1, .bool x.2.2.2.2.1, .string x.2.2.2.2.2.1, .string x.2.2.2.2.2.2.1, .int .u8 x.2.2.2.2.2.2.2.1, .int .i64 x.2.2.2.2.2.2.2.2.1, .int .i64 x.2.2.2.2.2.2.2.2.2.1, .bool x.2.2.2.2.2.2.2.2.2.2] := by
  obtain ⟨_, _, rfl, rfl, _, _, rfl, rfl, _, _, rfl, rfl, _, _, rfl, rfl, _, _, rfl, rfl, _, _, rfl, rfl, _, _, rfl, rfl, _, _, rfl, rfl, _, _, rfl, rfl, _, _, rfl, rfl, rfl⟩ := h
  rfl
theorem walk (W : World) (v0 : Value) (z0 : Reads Try.prog 25 W v0) : Calls Try.prog 3 #[v0] W fun e w' => e = .returned (.bool true) ∧ Below W.heap.size W w' := by
  obtain ⟨cs, rfl⟩ := z0.agg Try.underlying25
  obtain ⟨y, hy, hw⟩ := z0.opens opens
  have hcs : cs.toList = _ := kd_open hy
  obtain ⟨n, v, a, b, d, i, o, s, ar, co, pa⟩ := y
  have hU := bounds_u32 (n := a) hw
  obtain ⟨k, hk⟩ := pure (n := n) (v := v) (a := a) (b := b) (d := d) (i := i) (o := o) (s := s) (ar := ar) (co := co) (pa := pa) hU.1 (by have := hU.2; omega)
  have e : cs = #[.string n, .string v, .int .u32 a, .int .i64 b, .bool d, .string i, .string o, .int .u8 s, .int .i64 ar, .int .i64 co, .bool pa] := by
    apply Array.toList_inj.1
    rw [hcs]
  subst e
  exact waymarklaw12_ModelIfaces.calls k n v a b d i o s ar co pa true W hk
end Go.Proofs.Ytpncociifejcjaa.Ifaces
