/- What law 14's lives asks, in plain words. -/
import Derived.Test.YtfobllagmakjdaaDoorK29
namespace Go.Proofs.YtfobllagmakjdaaDoor
open Go.RowKit

namespace Lw
def u1 : Mo.U := ⟨2000, 1, 0, 1, 0, 0, 0⟩
def ea : Er.E := ⟨0, 2, 0, ⟨#[82]⟩, ⟨#[120]⟩, true, u1⟩
def eb : Er.E := ⟨0, 0, 0, ⟨#[]⟩, ⟨#[120]⟩, true, u1⟩
def ec : Er.E := ⟨0, 0, 0, ⟨#[]⟩, ⟨#[120]⟩, false, ⟨0, 0, 0, 0, 0, 0, 0⟩⟩
def s1 : Src.S := ⟨[], [([65], [ea, eb, ec])], [([65], [65]), ([113], [66])], false⟩
def s2 : Src.S := ⟨[], [([65], [eb, ec])], [([65], [66])], false⟩
def s3 : Src.S := ⟨[], [([65], [])], [], false⟩
def want : List Vd.Fl := [(8, ⟨#[65]⟩), (3, ⟨#[82]⟩), (10, ⟨#[65]⟩), (3, ⟨#[66]⟩)]
theorem eb_ok : eb.Ok := ⟨by decide +kernel, by decide +kernel, .inl ⟨rfl, rfl, rfl⟩, fun _ => ⟨⟨by decide +kernel, by decide +kernel, by decide +kernel, by decide +kernel⟩, by decide +kernel, by decide +kernel⟩, fun h => (by cases h)⟩
theorem ec_ok : ec.Ok := ⟨by decide +kernel, by decide +kernel, .inl ⟨rfl, rfl, rfl⟩, fun h => (by cases h), fun _ => rfl⟩
theorem s2_right : Src.srcB s2 = true := by
  have h2 : eb.good = true := by unfold Er.E.good; rw [Er.chk_ok eb eb_ok]; rfl
  have h3 : ec.good = true := by unfold Er.E.good; rw [Er.chk_ok ec ec_ok]; rfl
  have h4 : Src.zoneB ([65], [eb, ec]) = true := by
    unfold Src.zoneB Src.erasB Src.erasB Src.erasB
    simp only [h2, h3]
    decide +kernel
  have h5 : Src.linkB ([65], [66]) = true := by decide +kernel
  unfold Src.srcB s2
  simp only [List.all_cons, List.all_nil, h4, h5]
  rfl
theorem s3_wrong : Vd.well s3 = false := by
  unfold Vd.well Src.srcB s3 Src.zoneB
  simp
theorem s2_names : (Src.names s2).Nodup := by
  have h : Src.names s2 = [⟨#[65]⟩, ⟨#[66]⟩] := rfl
  rw [h]
  decide +kernel
theorem s2_flaws : Vd.flaws s2 = [] := by
  rw [Vd.flaws_iff]
  refine ⟨s2_names, ?_, ?_, ?_⟩
  · intro z hz e he hk
    have h1 : z = ([65], [eb, ec]) := by simpa [s2] using hz
    subst h1
    have h2 : e = eb ∨ e = ec := by simpa using he
    rcases h2 with rfl | rfl <;> exact absurd hk (by decide)
  · intro z hz
    have h1 : z = ([65], [eb, ec]) := by simpa [s2] using hz
    subst h1
    decide +kernel
  · intro l hl
    have h1 : l = ([65], [66]) := by simpa [s2] using hl
    subst h1
    exact ⟨0, by show _ ∈ Lk.zn s2; exact List.mem_singleton.2 rfl⟩
theorem s2_well : Vd.well s2 = true := (Vd.well_iff s2).2 ⟨s2_right, s2_flaws⟩
theorem ne_AB : (⟨#[66]⟩ : ByteArray) ∉ ([⟨#[65]⟩, ⟨#[65]⟩] : List ByteArray) := by
  have h0 : (⟨#[66]⟩ : ByteArray) ≠ ⟨#[65]⟩ := by decide +kernel
  intro h
  rcases List.mem_cons.1 h with h | h
  · exact h0 h
  · exact h0 (List.mem_singleton.1 h)
theorem s1_flaws : Vd.flaws s1 = want := by
  have h1 : Vd.tw (Src.names s1) = [(8, ⟨#[65]⟩)] := by
    have h : Src.names s1 = [⟨#[65]⟩, ⟨#[65]⟩, ⟨#[66]⟩] := rfl
    rw [h]
    unfold Vd.tw
    rw [show ([⟨#[65]⟩, ⟨#[65]⟩, ⟨#[66]⟩] : List ByteArray).length = 3 from rfl, Vd.steps_next (x := ⟨#[66]⟩) rfl, Vd.steps_next (x := ⟨#[65]⟩) rfl, Vd.steps_next (x := ⟨#[65]⟩) rfl,
      Vd.tw1_out (k := 0) (by simp), Vd.tw1_in (k := 1) (by simp), Vd.tw1_out (k := 2) ne_AB]
    rfl
  have h2 : s1.zones.flatMap (Vd.mz s1) = [(3, ⟨#[82]⟩)] := by
    show (Vd.mz s1 ([65], [ea, eb, ec])) ++ [] = _
    unfold Vd.mz
    simp only [List.flatMap_cons, List.flatMap_nil, List.append_nil]
    rw [Vd.ms_yes (e := ea) rfl (by show _ ∉ ([] : List ByteArray); simp), Vd.ms_kind (e := eb) (by decide), Vd.ms_kind (e := ec) (by decide)]
    rfl
  have h3 : s1.zones.flatMap Vd.dz = [(10, ⟨#[65]⟩)] := by
    show (Vd.dz ([65], [ea, eb, ec])) ++ [] = _
    rw [List.append_nil]
    decide +kernel
  have h4 : (Vd.asl s1 s1.links).2 = [(3, ⟨#[66]⟩)] := by decide +kernel
  unfold Vd.flaws Vd.fC Vd.fB Vd.fA
  rw [h1, h2, h3, h4]
  rfl
theorem s1_wrong : Vd.well s1 = false := by
  cases h : Vd.well s1 with
  | false => rfl
  | true =>
    have := ((Vd.well_iff s1).1 h).2
    rw [s1_flaws] at this
    cases this
end Lw
end Go.Proofs.YtfobllagmakjdaaDoor
