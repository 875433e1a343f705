/-
  DERIVED. GIVEN WITH THE SEED: THE CARDS: each row of YtcmfoipnoejmlaaDoorRows.lean that lists a variable, with what it lists TIED to the program's text (the seventh form; the later family's looks); each row that meets fmt, with fmt's text TOLD by the authors' own Lean function (tested against real Go, not proved from fmt's source: count such statements apart). THE CARD IS WHAT COUNTS. Prove the row's statement (the work); the ties are given (YtcmfoipnoejmlaaDoorTie.lean); close each card by the builder's one call (the guide's Derived/Test/ToyasCard.lean, 'card_holds'). Laid BY PROGRAM, IN A SANDBOX (cutbox-door.mjs). By AI agents, Wed Nov 11 2026. No macro, syntax, notation, axiom, sorry.
-/
import Derived.Test.YtcmfoipnoejmlaaDoorRows
import GoSem.ClaimSeven
namespace Go.Proofs.YtcmfoipnoejmlaaDoor
namespace Rows

/-- THE TIED CARD OF 'interlacelaw02.HashSumMatchesSpec'. -/
def hashSumMatchesSpecCard : Claim7 := { stood := { row := hashSumMatchesSpecRow, standIns := [], harness := (true, "b36abdd679d6a566766f3d355091612eecd3923b37c3c1363eea7324f64f6711"), looks := false }, kinds := [], alts := [], laidByText := true, laidKinds := [.data, .data], laidTests := true, laidLooks := .later }
def HashSumMatchesSpecCardSaid : Prop := Claim7.holds Tryd.pinned (.plain (OpenSpec.ofChange hashSumMatchesSpecSpec)) hashSumMatchesSpecCard

/-- THE TIED CARD OF 'interlacelaw02.HashStreamsAgree'. -/
def hashStreamsAgreeCard : Claim7 := { stood := { row := hashStreamsAgreeRow, standIns := [], harness := (true, "b36abdd679d6a566766f3d355091612eecd3923b37c3c1363eea7324f64f6711"), looks := false }, kinds := [], alts := [], laidByText := true, laidKinds := [.data, .data], laidTests := true, laidLooks := .later }
def HashStreamsAgreeCardSaid : Prop := Claim7.holds Tryd.pinned (.plain (OpenSpec.ofChange hashStreamsAgreeSpec)) hashStreamsAgreeCard

/-- THE TIED CARD OF 'interlacelaw02.HashMacMatchesSpec'. -/
def hashMacMatchesSpecCard : Claim7 := { stood := { row := hashMacMatchesSpecRow, standIns := [], harness := (true, "b36abdd679d6a566766f3d355091612eecd3923b37c3c1363eea7324f64f6711"), looks := false }, kinds := [], alts := [], laidByText := true, laidKinds := [.data, .data], laidTests := true, laidLooks := .later }
def HashMacMatchesSpecCardSaid : Prop := Claim7.holds Tryd.pinned (.plain (OpenSpec.ofChange hashMacMatchesSpecSpec)) hashMacMatchesSpecCard

/-- THE TIED CARD OF 'interlacelaw02.HashMacKeys'. -/
def hashMacKeysCard : Claim7 := { stood := { row := hashMacKeysRow, standIns := [], harness := (true, "b36abdd679d6a566766f3d355091612eecd3923b37c3c1363eea7324f64f6711"), looks := false }, kinds := [], alts := [], laidByText := true, laidKinds := [.data], laidTests := true, laidLooks := .later }
def HashMacKeysCardSaid : Prop := Claim7.holds Tryd.pinned (.plain (OpenSpec.ofChange hashMacKeysSpec)) hashMacKeysCard

/-- THE TIED CARD OF 'interlacelaw02.HashOfMatchesSpec'. -/
def hashOfMatchesSpecCard : Claim7 := { stood := { row := hashOfMatchesSpecRow, standIns := [], harness := (true, "b36abdd679d6a566766f3d355091612eecd3923b37c3c1363eea7324f64f6711"), looks := false }, kinds := [], alts := [], laidByText := true, laidKinds := [.data, .data], laidTests := true, laidLooks := .later }
def HashOfMatchesSpecCardSaid : Prop := Claim7.holds Tryd.pinned (.plain (OpenSpec.ofChange hashOfMatchesSpecSpec)) hashOfMatchesSpecCard

/-- THE TIED CARD OF 'interlacelaw02.HashOfSeparates'. -/
def hashOfSeparatesCard : Claim7 := { stood := { row := hashOfSeparatesRow, standIns := [], harness := (true, "b36abdd679d6a566766f3d355091612eecd3923b37c3c1363eea7324f64f6711"), looks := false }, kinds := [], alts := [], laidByText := true, laidKinds := [.data], laidTests := true, laidLooks := .later }
def HashOfSeparatesCardSaid : Prop := Claim7.holds Tryd.pinned (.plain (OpenSpec.ofChange hashOfSeparatesSpec)) hashOfSeparatesCard

/-- THE TIED CARD OF 'interlacelaw02.HashEqualIsEquality'. -/
def hashEqualIsEqualityCard : Claim7 := { stood := { row := hashEqualIsEqualityRow, standIns := [], harness := (true, "b36abdd679d6a566766f3d355091612eecd3923b37c3c1363eea7324f64f6711"), looks := false }, kinds := [], alts := [], laidByText := true, laidKinds := [.data], laidTests := true, laidLooks := .later }
def HashEqualIsEqualityCardSaid : Prop := Claim7.holds Tryd.pinned (.plain (OpenSpec.ofChange hashEqualIsEqualitySpec)) hashEqualIsEqualityCard

/-- THE TIED CARD OF 'interlacelaw03.SignDigitsMatchSpec'. -/
def signDigitsMatchSpecCard : Claim7 := { stood := { row := signDigitsMatchSpecRow, standIns := [], harness := (true, "b36abdd679d6a566766f3d355091612eecd3923b37c3c1363eea7324f64f6711"), looks := false }, kinds := [], alts := [], laidByText := true, laidKinds := [.data], laidTests := true, laidLooks := .later }
def SignDigitsMatchSpecCardSaid : Prop := Claim7.holds Tryd.pinned (.plain (OpenSpec.ofChange signDigitsMatchSpecSpec)) signDigitsMatchSpecCard

/-- THE TIED CARD OF 'interlacelaw03.SignMakesAsSpecified'. -/
def signMakesAsSpecifiedCard : Claim7 := { stood := { row := signMakesAsSpecifiedRow, standIns := [], harness := (true, "b36abdd679d6a566766f3d355091612eecd3923b37c3c1363eea7324f64f6711"), looks := false }, kinds := [], alts := [], laidByText := true, laidKinds := [.data, .data], laidTests := true, laidLooks := .later }
def SignMakesAsSpecifiedCardSaid : Prop := Claim7.holds Tryd.pinned (.plain (OpenSpec.ofChange signMakesAsSpecifiedSpec)) signMakesAsSpecifiedCard

/-- THE TIED CARD OF 'interlacelaw03.SignVerifiesAsSpecified'. -/
def signVerifiesAsSpecifiedCard : Claim7 := { stood := { row := signVerifiesAsSpecifiedRow, standIns := [], harness := (true, "b36abdd679d6a566766f3d355091612eecd3923b37c3c1363eea7324f64f6711"), looks := false }, kinds := [], alts := [], laidByText := true, laidKinds := [.data, .data], laidTests := true, laidLooks := .later }
def SignVerifiesAsSpecifiedCardSaid : Prop := Claim7.holds Tryd.pinned (.plain (OpenSpec.ofChange signVerifiesAsSpecifiedSpec)) signVerifiesAsSpecifiedCard

/-- THE TIED CARD OF 'interlacelaw03.SignIsAccepted'. -/
def signIsAcceptedCard : Claim7 := { stood := { row := signIsAcceptedRow, standIns := [], harness := (true, "b36abdd679d6a566766f3d355091612eecd3923b37c3c1363eea7324f64f6711"), looks := false }, kinds := [], alts := [], laidByText := true, laidKinds := [.data], laidTests := true, laidLooks := .later }
def SignIsAcceptedCardSaid : Prop := Claim7.holds Tryd.pinned (.plain (OpenSpec.ofChange signIsAcceptedSpec)) signIsAcceptedCard

/-- THE TIED CARD OF 'interlacelaw03.SignDigitsCross'. -/
def signDigitsCrossCard : Claim7 := { stood := { row := signDigitsCrossRow, standIns := [], harness := (true, "b36abdd679d6a566766f3d355091612eecd3923b37c3c1363eea7324f64f6711"), looks := false }, kinds := [], alts := [], laidByText := true, laidKinds := [.data], laidTests := true, laidLooks := .later }
def SignDigitsCrossCardSaid : Prop := Claim7.holds Tryd.pinned (.plain (OpenSpec.ofChange signDigitsCrossSpec)) signDigitsCrossCard

/-- THE TIED CARD OF 'interlacelaw03.SignChecksEverything'. -/
def signChecksEverythingCard : Claim7 := { stood := { row := signChecksEverythingRow, standIns := [], harness := (true, "b36abdd679d6a566766f3d355091612eecd3923b37c3c1363eea7324f64f6711"), looks := false }, kinds := [], alts := [], laidByText := true, laidKinds := [.data, .data], laidTests := true, laidLooks := .later }
def SignChecksEverythingCardSaid : Prop := Claim7.holds Tryd.pinned (.plain (OpenSpec.ofChange signChecksEverythingSpec)) signChecksEverythingCard

/-- THE SECOND FORM's CARD OF 'interlacelaw02.HashSumMatchesSpec'. -/
def hashSumMatchesSpecUptoCard : Claim7 := { stood := { row := hashSumMatchesSpecUptoRow, standIns := [], harness := (true, "b36abdd679d6a566766f3d355091612eecd3923b37c3c1363eea7324f64f6711"), looks := false }, kinds := [], alts := [], laidByText := true, laidKinds := [.data, .data], laidTests := true, laidLooks := .later }
def HashSumMatchesSpecUptoCardSaid : Prop := Claim7.holds Tryd.pinned (.plain (OpenSpec.upto hashSumMatchesSpecSpec)) hashSumMatchesSpecUptoCard

/-- THE SECOND FORM's CARD OF 'interlacelaw02.HashStreamsAgree'. -/
def hashStreamsAgreeUptoCard : Claim7 := { stood := { row := hashStreamsAgreeUptoRow, standIns := [], harness := (true, "b36abdd679d6a566766f3d355091612eecd3923b37c3c1363eea7324f64f6711"), looks := false }, kinds := [], alts := [], laidByText := true, laidKinds := [.data, .data], laidTests := true, laidLooks := .later }
def HashStreamsAgreeUptoCardSaid : Prop := Claim7.holds Tryd.pinned (.plain (OpenSpec.upto hashStreamsAgreeSpec)) hashStreamsAgreeUptoCard

/-- THE SECOND FORM's CARD OF 'interlacelaw02.HashMacMatchesSpec'. -/
def hashMacMatchesSpecUptoCard : Claim7 := { stood := { row := hashMacMatchesSpecUptoRow, standIns := [], harness := (true, "b36abdd679d6a566766f3d355091612eecd3923b37c3c1363eea7324f64f6711"), looks := false }, kinds := [], alts := [], laidByText := true, laidKinds := [.data, .data], laidTests := true, laidLooks := .later }
def HashMacMatchesSpecUptoCardSaid : Prop := Claim7.holds Tryd.pinned (.plain (OpenSpec.upto hashMacMatchesSpecSpec)) hashMacMatchesSpecUptoCard

/-- THE SECOND FORM's CARD OF 'interlacelaw02.HashMacKeys'. -/
def hashMacKeysUptoCard : Claim7 := { stood := { row := hashMacKeysUptoRow, standIns := [], harness := (true, "b36abdd679d6a566766f3d355091612eecd3923b37c3c1363eea7324f64f6711"), looks := false }, kinds := [], alts := [], laidByText := true, laidKinds := [.data], laidTests := true, laidLooks := .later }
def HashMacKeysUptoCardSaid : Prop := Claim7.holds Tryd.pinned (.plain (OpenSpec.upto hashMacKeysSpec)) hashMacKeysUptoCard

/-- THE SECOND FORM's CARD OF 'interlacelaw02.HashOfMatchesSpec'. -/
def hashOfMatchesSpecUptoCard : Claim7 := { stood := { row := hashOfMatchesSpecUptoRow, standIns := [], harness := (true, "b36abdd679d6a566766f3d355091612eecd3923b37c3c1363eea7324f64f6711"), looks := false }, kinds := [], alts := [], laidByText := true, laidKinds := [.data, .data], laidTests := true, laidLooks := .later }
def HashOfMatchesSpecUptoCardSaid : Prop := Claim7.holds Tryd.pinned (.plain (OpenSpec.upto hashOfMatchesSpecSpec)) hashOfMatchesSpecUptoCard

/-- THE SECOND FORM's CARD OF 'interlacelaw02.HashOfSeparates'. -/
def hashOfSeparatesUptoCard : Claim7 := { stood := { row := hashOfSeparatesUptoRow, standIns := [], harness := (true, "b36abdd679d6a566766f3d355091612eecd3923b37c3c1363eea7324f64f6711"), looks := false }, kinds := [], alts := [], laidByText := true, laidKinds := [.data], laidTests := true, laidLooks := .later }
def HashOfSeparatesUptoCardSaid : Prop := Claim7.holds Tryd.pinned (.plain (OpenSpec.upto hashOfSeparatesSpec)) hashOfSeparatesUptoCard

/-- THE SECOND FORM's CARD OF 'interlacelaw02.HashEqualIsEquality'. -/
def hashEqualIsEqualityUptoCard : Claim7 := { stood := { row := hashEqualIsEqualityUptoRow, standIns := [], harness := (true, "b36abdd679d6a566766f3d355091612eecd3923b37c3c1363eea7324f64f6711"), looks := false }, kinds := [], alts := [], laidByText := true, laidKinds := [.data], laidTests := true, laidLooks := .later }
def HashEqualIsEqualityUptoCardSaid : Prop := Claim7.holds Tryd.pinned (.plain (OpenSpec.upto hashEqualIsEqualitySpec)) hashEqualIsEqualityUptoCard

/-- THE SECOND FORM's CARD OF 'interlacelaw03.SignDigitsMatchSpec'. -/
def signDigitsMatchSpecUptoCard : Claim7 := { stood := { row := signDigitsMatchSpecUptoRow, standIns := [], harness := (true, "b36abdd679d6a566766f3d355091612eecd3923b37c3c1363eea7324f64f6711"), looks := false }, kinds := [], alts := [], laidByText := true, laidKinds := [.data], laidTests := true, laidLooks := .later }
def SignDigitsMatchSpecUptoCardSaid : Prop := Claim7.holds Tryd.pinned (.plain (OpenSpec.upto signDigitsMatchSpecSpec)) signDigitsMatchSpecUptoCard

/-- THE SECOND FORM's CARD OF 'interlacelaw03.SignMakesAsSpecified'. -/
def signMakesAsSpecifiedUptoCard : Claim7 := { stood := { row := signMakesAsSpecifiedUptoRow, standIns := [], harness := (true, "b36abdd679d6a566766f3d355091612eecd3923b37c3c1363eea7324f64f6711"), looks := false }, kinds := [], alts := [], laidByText := true, laidKinds := [.data, .data], laidTests := true, laidLooks := .later }
def SignMakesAsSpecifiedUptoCardSaid : Prop := Claim7.holds Tryd.pinned (.plain (OpenSpec.upto signMakesAsSpecifiedSpec)) signMakesAsSpecifiedUptoCard

/-- THE SECOND FORM's CARD OF 'interlacelaw03.SignVerifiesAsSpecified'. -/
def signVerifiesAsSpecifiedUptoCard : Claim7 := { stood := { row := signVerifiesAsSpecifiedUptoRow, standIns := [], harness := (true, "b36abdd679d6a566766f3d355091612eecd3923b37c3c1363eea7324f64f6711"), looks := false }, kinds := [], alts := [], laidByText := true, laidKinds := [.data, .data], laidTests := true, laidLooks := .later }
def SignVerifiesAsSpecifiedUptoCardSaid : Prop := Claim7.holds Tryd.pinned (.plain (OpenSpec.upto signVerifiesAsSpecifiedSpec)) signVerifiesAsSpecifiedUptoCard

/-- THE SECOND FORM's CARD OF 'interlacelaw03.SignIsAccepted'. -/
def signIsAcceptedUptoCard : Claim7 := { stood := { row := signIsAcceptedUptoRow, standIns := [], harness := (true, "b36abdd679d6a566766f3d355091612eecd3923b37c3c1363eea7324f64f6711"), looks := false }, kinds := [], alts := [], laidByText := true, laidKinds := [.data], laidTests := true, laidLooks := .later }
def SignIsAcceptedUptoCardSaid : Prop := Claim7.holds Tryd.pinned (.plain (OpenSpec.upto signIsAcceptedSpec)) signIsAcceptedUptoCard

/-- THE SECOND FORM's CARD OF 'interlacelaw03.SignDigitsCross'. -/
def signDigitsCrossUptoCard : Claim7 := { stood := { row := signDigitsCrossUptoRow, standIns := [], harness := (true, "b36abdd679d6a566766f3d355091612eecd3923b37c3c1363eea7324f64f6711"), looks := false }, kinds := [], alts := [], laidByText := true, laidKinds := [.data], laidTests := true, laidLooks := .later }
def SignDigitsCrossUptoCardSaid : Prop := Claim7.holds Tryd.pinned (.plain (OpenSpec.upto signDigitsCrossSpec)) signDigitsCrossUptoCard

/-- THE SECOND FORM's CARD OF 'interlacelaw03.SignChecksEverything'. -/
def signChecksEverythingUptoCard : Claim7 := { stood := { row := signChecksEverythingUptoRow, standIns := [], harness := (true, "b36abdd679d6a566766f3d355091612eecd3923b37c3c1363eea7324f64f6711"), looks := false }, kinds := [], alts := [], laidByText := true, laidKinds := [.data, .data], laidTests := true, laidLooks := .later }
def SignChecksEverythingUptoCardSaid : Prop := Claim7.holds Tryd.pinned (.plain (OpenSpec.upto signChecksEverythingSpec)) signChecksEverythingUptoCard
end Rows
end Go.Proofs.YtcmfoipnoejmlaaDoor
