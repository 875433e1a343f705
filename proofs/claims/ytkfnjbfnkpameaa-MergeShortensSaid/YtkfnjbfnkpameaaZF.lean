/- Part 6 of the proof of MergeShortens (several texts in one; no further condition). -/
import Derived.Test.YtkfnjbfnkpameaaZE
set_option linter.unusedSimpArgs false
set_option linter.unusedVariables false
set_option linter.unusedSectionVars false
namespace Go.Proofs.Ytkfnjbfnkpameaa
open _root_.List renaming append_assoc->gt,append_nil->ic,cons_append->ib,drop_succ_cons->ld,drop_zero->gu,length_append->gb,length_cons->gq,length_map->f5,length_nil->jl,nil_append->gn
open _root_.Nat renaming eq_of_beq_eq_true->ft,reduceAdd->gc,reduceSub->i9,zero_add->jc
open Go Go.RowKit
theorem yj1:z4b Try.prog LL:=by
  intro gf i h;unfold z5m at h;obtain ⟨_,h⟩:=zem h;unfold itOf at h;rw [zcn] at h;split at h
  . rename_i h1;cases h;rw [ft h1];exact ymq
  . obtain ⟨h1,h⟩:=zem h;cases h;rw [ft h1];exact yhq
end Go.Proofs.Ytkfnjbfnkpameaa
