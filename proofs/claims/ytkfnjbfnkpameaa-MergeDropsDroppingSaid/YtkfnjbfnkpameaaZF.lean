/- Part 6 of the proof of MergeDropsDropping (several texts in one; no further condition). -/
import Derived.Test.YtkfnjbfnkpameaaZE
set_option linter.unusedSimpArgs false
set_option linter.unusedVariables false
set_option linter.unusedSectionVars false
namespace Go.Proofs.Ytkfnjbfnkpameaa
open _root_.List renaming append_assoc->fy,append_nil->gn,cons_append->f6,drop_succ_cons->jw,drop_zero->ge,length_append->fi,length_cons->fq,length_map->fc,length_nil->iu,nil_append->ft
open _root_.Nat renaming eq_of_beq_eq_true->et,reduceAdd->ff,reduceSub->ib,zero_add->ig
open Go Go.RowKit
theorem yg0:z1w Try.prog LL:=by
  intro gf i h;unfold z24 at h;obtain ⟨_,h⟩:=zd1 h;unfold itOf at h;rw [zcg] at h;split at h
  . rename_i h1;cases h;rw [et h1];exact yjt
  . obtain ⟨h1,h⟩:=zd1 h;cases h;rw [et h1];exact yep
end Go.Proofs.Ytkfnjbfnkpameaa
