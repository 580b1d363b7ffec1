/- The law LetterOne, over the plain functions: it stands in Dec. -/
import Derived.Test.YtciohdgjlcaokaaDec
