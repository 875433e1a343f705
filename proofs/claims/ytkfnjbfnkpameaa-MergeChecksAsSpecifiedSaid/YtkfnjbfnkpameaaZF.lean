/- Part 6 of the proof of MergeChecksAsSpecified (several texts in one; no further condition). -/
import Derived.Test.YtkfnjbfnkpameaaZE
set_option linter.unusedSimpArgs false
set_option linter.unusedVariables false
set_option linter.unusedSectionVars false
namespace Go.Proofs.Ytkfnjbfnkpameaa
open _root_.List renaming append_assoc->gi,append_nil->gr,cons_append->gp,drop_succ_cons->ku,drop_zero->gl,length_append->fw,length_cons->gg,length_map->fq,length_nil->jd,nil_append->ge
open _root_.Nat renaming eq_of_beq_eq_true->fk,reduceAdd->ft,reduceSub->iy,zero_add->i4
open Go Go.RowKit
theorem yi8:z3u Try.prog LL:=by
  intro gf i h;unfold z40 at h;obtain ⟨_,h⟩:=zef h;unfold itOf at h;rw [zcl] at h;split at h
  . rename_i h1;cases h;rw [fk h1];exact ylx
  . obtain ⟨h1,h⟩:=zef h;cases h;rw [fk h1];exact ygt
end Go.Proofs.Ytkfnjbfnkpameaa
